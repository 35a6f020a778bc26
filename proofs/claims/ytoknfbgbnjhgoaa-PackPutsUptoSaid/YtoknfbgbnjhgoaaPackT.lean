/- PutText, the program's and the document's. -/
import Derived.Test.YtoknfbgbnjhgoaaPackQ
import Derived.Lib.AppendStr
namespace Go.Proofs.Ytoknfbgbnjhgoaa
set_option linter.unusedVariables false
open Go.RowKit

def sbs (s : ByteArray) : List UInt8 := s.data.toList
theorem sbs_length (s : ByteArray) : (sbs s).length = s.size := by rw [sbs, Array.length_toList]; rfl
theorem intsAt_new (w : World) (t : TypeId) (z : Int) : IntsAt (w.alloc (.cells #[.int .i64 z] t)) (some ⟨w.heap.size, 0, none⟩) 1 (fun _ => z) := fun _ => by
  refine ⟨_, 0, rfl, by simp, fun i hi => ?_⟩
  obtain rfl : i = 0 := by omega
  exact ((Blk.new w t #[.int .i64 z]).cell 0).trans rfl
theorem put_one {f : FuncId} {A : Option Addr} {n c : Nat} {L : List UInt8} {w : World} {z : Int} {t : TypeId} (h0 : okN z)
    (hc : Calls Try.prog f #[.slice A n c, .slice (some ⟨w.heap.size, 0, none⟩) 1 1] (w.alloc (.cells #[.int .i64 z] t)) fun e w' => PutQ (fun _ => z) 1 L (w.alloc (.cells #[.int .i64 z] t)).heap.size w' e ∧ Below (w.alloc (.cells #[.int .i64 z] t)).heap.size (w.alloc (.cells #[.int .i64 z] t)) w') :
    Calls Try.prog f #[.slice A n c, .slice (some ⟨w.heap.size, 0, none⟩) 1 1] (w.alloc (.cells #[.int .i64 z] t)) fun e w' => ∃ v, e = .returned (.tuple #[v, .int .i64 0]) ∧ OwnB w' w.heap.size v (L ++ enc z) ∧ Below w.heap.size w w' := by
  refine hc.mono fun e w' ⟨h1, h2⟩ => ?_
  rcases h1 with ⟨_, v, he, hO⟩ | ⟨hn, _⟩
  · exact ⟨v, he, by simpa [encT] using hO.mono (by simp), below_lift ((Below.refl _ _).alloc (Nat.le_refl _) _) h2 (by simp)⟩
  · exact absurd (fun i _ => h0) hn
theorem put_one_a (A : Option Addr) (n c : Nat) (L : List UInt8) (z : Int) (t : TypeId) (w : World) (h : n = L.length ∧ BytesR w A L) (hA : A = none → c = 0) (hc : n ≤ c) (hl : n + 9 ≤ 140737488355328) (h0 : okN z) :
    Calls Try.prog 8 #[.slice A n c, .slice (some ⟨w.heap.size, 0, none⟩) 1 1] (w.alloc (.cells #[.int .i64 z] t)) fun e w' => ∃ v, e = .returned (.tuple #[v, .int .i64 0]) ∧ OwnB w' w.heap.size v (L ++ enc z) ∧ Below w.heap.size w w' :=
  put_one h0 (put_a A n c L _ 1 1 (fun _ => z) _ ⟨h.1, h.2.below ((Below.refl _ _).alloc (Nat.le_refl _) _)⟩ hA hc (intsAt_new w t z) (by omega))
theorem put_one_b (A : Option Addr) (n c : Nat) (L : List UInt8) (z : Int) (t : TypeId) (w : World) (h : n = L.length ∧ BytesR w A L) (hA : A = none → c = 0) (hc : n ≤ c) (hl : n + 9 ≤ 140737488355328) (h0 : okN z) :
    Calls Try.prog 9 #[.slice A n c, .slice (some ⟨w.heap.size, 0, none⟩) 1 1] (w.alloc (.cells #[.int .i64 z] t)) fun e w' => ∃ v, e = .returned (.tuple #[v, .int .i64 0]) ∧ OwnB w' w.heap.size v (L ++ enc z) ∧ Below w.heap.size w w' :=
  put_one h0 (put_b A n c L _ 1 1 (fun _ => z) _ ⟨h.1, h.2.below ((Below.refl _ _).alloc (Nat.le_refl _) _)⟩ hA hc (intsAt_new w t z) (by omega))
/-- How PutText ends. -/
def TextQ (s : ByteArray) (L : List UInt8) (B : Nat) (w' : World) (e : Ending) : Prop :=
  (s.size ≤ 65536 ∧ ∃ v, e = .returned (.tuple #[v, .int .i64 0]) ∧ OwnB w' B v (L ++ enc s.size ++ sbs s)) ∨ (65536 < s.size ∧ e = .returned (.tuple #[.slice none 0 0, .int .i64 5]))
set_option maxHeartbeats 400000 in
theorem text_a (A : Option Addr) (n c : Nat) (L : List UInt8) (s : ByteArray) (w : World) (h : n = L.length ∧ BytesR w A L) (hA : A = none → c = 0) (hc : n ≤ c) (hl : n + 65545 ≤ 140737488355328) :
    Calls Try.prog 10 #[.slice A n c, .string s] w fun e w' => TextQ s L w.heap.size w' e ∧ Below w.heap.size w w' := by
  obtain ⟨i0, hi0, hz0, hz1, hz2⟩ := info_parts byte_info
  have HC := Lib.hid h
  clear h
  have hl9 : n + 9 ≤ 140737488355328 := by omega
  go_enter Try.func10, Try.ntmps10
  by_cases hs : (65536 : Int) < (s.size : Nat)
  · go_wp2_with fail
    go_ret2
    exact ⟨.inr ⟨by omega, rfl⟩, Below.refl _ _⟩
  · have h0 : okN (s.size : Nat) := ⟨by omega, by omega⟩
    have HL : Hid ((L ++ enc (s.size : Nat)).length + s.size ≤ 140737488355328) := by
      show (L ++ enc (s.size : Nat)).length + s.size ≤ 140737488355328
      have h1 := enc_length (s.size : Nat)
      have h2 := HC.out.1
      simp only [List.length_append]; omega
    go_wp2_with (first
      | (at_builtin; refine Lib.wpList_append_own_string _ rfl _ _ _ _ rfl w.heap.size 5 i0 Try.underlying22 Try.underlying9 hi0 hz0 hz1 hz2 _ _ (bcs (L ++ enc (s.size : Nat))) rfl hO1 s rfl (by have := HL.out; simp only [maxLen]; omega) HL.out hB1.size ?_; intro v2 w2 hown hg _; have hB2 := below_grown hB1 hg hB1.size (own_from hO1))
      | (go_at_call 8; with_reducible refine (put_one_a A n c L _ _ _ HC.out hA hc hl9 h0).mono ?_; rintro e w1 ⟨v1, rfl, hO1, hB1⟩))
    go_ret2
    exact ⟨.inl ⟨by omega, v2, rfl, OwnB.of (by rw [bcs_append]; exact hown)⟩, hB2⟩
set_option maxHeartbeats 400000 in
theorem text_b (A : Option Addr) (n c : Nat) (L : List UInt8) (s : ByteArray) (w : World) (h : n = L.length ∧ BytesR w A L) (hA : A = none → c = 0) (hc : n ≤ c) (hl : n + 65545 ≤ 140737488355328) :
    Calls Try.prog 11 #[.slice A n c, .string s] w fun e w' => TextQ s L w.heap.size w' e ∧ Below w.heap.size w w' := by
  obtain ⟨i0, hi0, hz0, hz1, hz2⟩ := info_parts byte_info
  have HC := Lib.hid h
  clear h
  have hl9 : n + 9 ≤ 140737488355328 := by omega
  go_enter Try.func11, Try.ntmps11
  by_cases hs : (65536 : Int) < (s.size : Nat)
  · go_wp2_with fail
    go_ret2
    exact ⟨.inr ⟨by omega, rfl⟩, Below.refl _ _⟩
  · have h0 : okN (s.size : Nat) := ⟨by omega, by omega⟩
    have HL : Hid ((L ++ enc (s.size : Nat)).length + s.size ≤ 140737488355328) := by
      show (L ++ enc (s.size : Nat)).length + s.size ≤ 140737488355328
      have h1 := enc_length (s.size : Nat)
      have h2 := HC.out.1
      simp only [List.length_append]; omega
    go_wp2_with (first
      | (at_builtin; refine Lib.wpList_append_own_string _ rfl _ _ _ _ rfl w.heap.size 5 i0 Try.underlying22 Try.underlying9 hi0 hz0 hz1 hz2 _ _ (bcs (L ++ enc (s.size : Nat))) rfl hO1 s rfl (by have := HL.out; simp only [maxLen]; omega) HL.out hB1.size ?_; intro v2 w2 hown hg _; have hB2 := below_grown hB1 hg hB1.size (own_from hO1))
      | (go_at_call 9; with_reducible refine (put_one_b A n c L _ _ _ HC.out hA hc hl9 h0).mono ?_; rintro e w1 ⟨v1, rfl, hO1, hB1⟩))
    go_ret2
    exact ⟨.inl ⟨by omega, v2, rfl, OwnB.of (by rw [bcs_append]; exact hown)⟩, hB2⟩
end Go.Proofs.Ytoknfbgbnjhgoaa
