/- PackPuts, walked. -/
import Derived.Test.YtoknfbgbnjhgoaaPackW
namespace Go.Proofs.Ytoknfbgbnjhgoaa
set_option linter.unusedVariables false
open Go.RowKit

/-- Bytes that may be written, in a block from B on. -/
def WrB (w : World) (B : Nat) (A : Option Addr) (n : Nat) : Prop := 0 < n → ∃ g cur, A = some ⟨g, 0, none⟩ ∧ B ≤ g ∧ Blk w g 5 cur ∧ ∀ j, j < n → ∃ z : Int, cur[j]? = some (.int .u8 z)
theorem WrB.at_ {w : World} {B n i : Nat} {A : Option Addr} (h : WrB w B A n) (hi : i < n) : ∃ g z, A = some ⟨g, 0, none⟩ ∧ B ≤ g ∧ w.cell? ⟨g, i, none⟩ = some (.int .u8 z) ∧ w.frozen? ⟨g, i, none⟩ = false := by
  obtain ⟨g, cur, h1, h2, h3, h4⟩ := h (by omega)
  obtain ⟨z, hz⟩ := h4 i hi
  exact ⟨g, z, h1, h2, (h3.cell i).trans hz, h3.frozen i⟩
theorem WrB.set_ {w : World} {B n g : Nat} (h : WrB w B (some ⟨g, 0, none⟩) n) (i : Nat) (z : Int) : WrB (w.setCell ⟨g, i, none⟩ (.int .u8 z)) B (some ⟨g, 0, none⟩) n := fun hn => by
  obtain ⟨g', cur, h1, h2, h3, h4⟩ := h hn
  simp only [Option.some.injEq, Addr.mk.injEq, and_true] at h1
  subst h1
  refine ⟨g, _, rfl, h2, h3.set_ i _, fun j hj => ?_⟩
  obtain ⟨y, hy⟩ := h4 j hj
  have hlt := (Array.getElem?_eq_some_iff.1 hy).1
  by_cases hij : i = j
  · subst hij
    exact ⟨z, by rw [Array.getElem?_setIfInBounds_self_of_lt hlt]⟩
  · exact ⟨y, by rw [Array.getElem?_setIfInBounds_ne hij]; exact hy⟩
theorem WrB.below {w w' : World} {B n : Nat} {A : Option Addr} (h : WrB w B A n) (k : Below w.heap.size w w') : WrB w' B A n := fun hn => by
  obtain ⟨g, cur, h1, h2, h3, h4⟩ := h hn
  exact ⟨g, cur, h1, h2, h3.below k h3.lt, h4⟩
theorem OwnB.wr {w : World} {B c : Nat} {A : Option Addr} {L : List UInt8} (h : OwnB w B (.slice A L.length c) L) : WrB w B A L.length := fun hn => by
  obtain ⟨A', c', e, h1, h2, h3, h4⟩ := own_form h
  simp only [Value.slice.injEq, true_and] at e
  obtain ⟨rfl, rfl⟩ := e
  cases A with
  | none => have := (h3 rfl).1; omega
  | some a =>
    obtain ⟨g, cur, rfl, hg, hb, hs, ht⟩ := h4 a rfl
    exact ⟨g, cur, rfl, hg, hb, fun j hj => ⟨_, take_at ht (bcs_get (List.getElem?_eq_getElem hj))⟩⟩
open Classical in
noncomputable def putX (R : Nat → Int) (n1 : Nat) (L : List UInt8) : List UInt8 := if AllOk R n1 then L ++ encT R n1 else []
open Classical in
noncomputable def putEr (R : Nat → Int) (n1 : Nat) : Int := if AllOk R n1 then 0 else 2
theorem put_u {w w' : World} {e : Ending} {R : Nat → Int} {n1 : Nat} {L : List UInt8} (h : PutQ R n1 L w.heap.size w' e) : ∃ A c n, e = .returned (.tuple #[.slice A n c, .int .i64 (putEr R n1)]) ∧ Hid (n = (putX R n1 L).length ∧ BytesR w' A (putX R n1 L)) ∧ Hid (WrB w' w.heap.size A n) := by
  rcases h with ⟨ha, v, he, hO⟩ | ⟨hn, he⟩
  · obtain ⟨A, c, rfl, k1, k2, k3, k4, -⟩ := hO.form
    have e1 : putX R n1 L = L ++ encT R n1 := if_pos ha
    have e2 : putEr R n1 = 0 := if_pos ha
    exact ⟨A, c, _, by rw [he, e2], Lib.hid ⟨by rw [e1], by rw [e1]; exact k3⟩, Lib.hid hO.wr⟩
  · have e1 : putX R n1 L = [] := if_neg hn
    have e2 : putEr R n1 = 2 := if_neg hn
    exact ⟨none, 0, 0, by rw [he, e2], Lib.hid ⟨by rw [e1]; rfl, by rw [e1]; exact BytesR.nil⟩, Lib.hid (fun h => by omega)⟩
theorem putX_length (R : Nat → Int) (n1 : Nat) (L : List UInt8) : (putX R n1 L).length ≤ L.length + 9 * n1 := by
  unfold putX
  split
  · have := encT_length R n1; rw [List.length_append]; omega
  · simp
def textX (s : ByteArray) (L : List UInt8) : List UInt8 := if s.size ≤ 65536 then L ++ enc (s.size : Nat) ++ sbs s else []
def textEr (s : ByteArray) : Int := if s.size ≤ 65536 then 0 else 5
theorem text_u {w w' : World} {e : Ending} {s : ByteArray} {L : List UInt8} (h : TextQ s L w.heap.size w' e) : ∃ A c n, e = .returned (.tuple #[.slice A n c, .int .i64 (textEr s)]) ∧ Hid (n = (textX s L).length ∧ BytesR w' A (textX s L)) := by
  rcases h with ⟨ha, v, he, hO⟩ | ⟨hn, he⟩
  · obtain ⟨A, c, rfl, k1, k2, k3, k4, -⟩ := hO.form
    have e1 : textX s L = L ++ enc (s.size : Nat) ++ sbs s := if_pos ha
    have e2 : textEr s = 0 := if_pos ha
    exact ⟨A, c, _, by rw [he, e2], Lib.hid ⟨by rw [e1], by rw [e1]; exact k3⟩⟩
  · have e1 : textX s L = [] := if_neg (by omega)
    have e2 : textEr s = 5 := if_neg (by omega)
    exact ⟨none, 0, 0, by rw [he, e2], Lib.hid ⟨by rw [e1]; rfl, by rw [e1]; exact BytesR.nil⟩⟩
theorem copy_f (A : Option Addr) (n c : Nat) (L : List UInt8) (w : World) (hl : n ≤ 140737488355328) (h : n = L.length ∧ BytesR w A L) (hA : A = none → c = 0) :
    Calls Try.prog 7 #[.slice A n c] w fun e w' => ∃ A0 c0, e = .returned (.slice A0 n c0) ∧ n ≤ c0 ∧ (A0 = none → c0 = 0) ∧ Hid (n = L.length ∧ BytesR w' A0 L) ∧ Below w.heap.size w w' :=
  (copy_c A n c L w hl h hA).mono fun e w' ⟨v, h1, h2, h3⟩ => by
    obtain ⟨A0, c0, rfl, k1, k2, k3, -⟩ := h2.form
    rw [← h.1] at k1 h1
    exact ⟨A0, c0, h1, k1, k2, Lib.hid ⟨h.1, k3⟩, h3⟩
set_option maxRecDepth 20000 in
set_option maxHeartbeats 400000 in
theorem puts_c (A : Option Addr) (n c : Nat) (L : List UInt8) (A1 : Option Addr) (n1 c1 : Nat) (R : Nat → Int) (s : ByteArray) (w : World) (h : n = L.length ∧ BytesR w A L) (hA : A = none → c = 0) (hc : n ≤ c)
    (hR : IntsAt w A1 n1 R) (hl : n + 9 * n1 ≤ 140737488355328) (hl2 : n + 65545 ≤ 140737488355328) :
    Calls Try.prog 3 #[.slice A n c, .slice A1 n1 c1, .string s] w fun e w' => e = .returned (.bool true) ∧ Below w.heap.size w w' := by
  have HC := Lib.hid h
  have HR := Lib.hid hR
  have hl0 : n ≤ 140737488355328 := by omega
  clear h hR
  obtain ⟨X, hX⟩ : ∃ X, putX R n1 L = X := ⟨_, rfl⟩
  obtain ⟨er, her⟩ : ∃ X, putEr R n1 = X := ⟨_, rfl⟩
  obtain ⟨Y, hY⟩ : ∃ X, textX s L = X := ⟨_, rfl⟩
  obtain ⟨er2, her2⟩ : ∃ X, textEr s = X := ⟨_, rfl⟩
  have hBB : ∀ w' : World, Below w.heap.size w w' → (n = L.length ∧ BytesR w' A L) := fun w' hw => ⟨HC.out.1, HC.out.2.below hw⟩
  have PA : ∀ (A0 : Option Addr) (c0 : Nat) (w1 : World), Hid (n = L.length ∧ BytesR w1 A0 L) → (A0 = none → c0 = 0) → n ≤ c0 → Below w.heap.size w w1 → Calls Try.prog 8 #[.slice A0 n c0, .slice A1 n1 c1] w1 fun e w' => (∃ A c m, e = .returned (.tuple #[.slice A m c, .int .i64 er]) ∧ Hid (m = X.length ∧ BytesR w' A X) ∧ Hid (WrB w' w1.heap.size A m) ∧ m ≤ 140737488355328) ∧ Below w1.heap.size w1 w' := fun A0 c0 w1 k1 k2 k3 kb =>
    (put_a A0 n c0 L A1 n1 c1 R w1 k1.out k2 k3 (HR.out.below kb) hl).mono fun e w' ⟨h1, h2⟩ => ⟨by
      obtain ⟨A, c, m, k1', k2', k3'⟩ := put_u h1
      have hb := putX_length R n1 L
      have hm := k2'.out.1
      have hn := HC.out.1
      rw [hX] at k2'
      rw [her] at k1'
      exact ⟨A, c, m, k1', k2', k3', by omega⟩, h2⟩
  have PB : ∀ (w1 : World), Below w.heap.size w w1 → Calls Try.prog 9 #[.slice A n c, .slice A1 n1 c1] w1 fun e w' => (∃ A c m, e = .returned (.tuple #[.slice A m c, .int .i64 er]) ∧ Hid (m = X.length ∧ BytesR w' A X)) ∧ Below w1.heap.size w1 w' := fun w1 kb =>
    (put_b A n c L A1 n1 c1 R w1 (hBB w1 kb) hA hc (HR.out.below kb) hl).mono fun e w' ⟨h1, h2⟩ => ⟨by rw [← hX, ← her]; obtain ⟨A, c, m, k1, k2, -⟩ := put_u h1; exact ⟨A, c, m, k1, k2⟩, h2⟩
  have TA : ∀ (A0 : Option Addr) (c0 : Nat) (w1 : World), Hid (n = L.length ∧ BytesR w1 A0 L) → (A0 = none → c0 = 0) → n ≤ c0 → Calls Try.prog 10 #[.slice A0 n c0, .string s] w1 fun e w' => (∃ A c m, e = .returned (.tuple #[.slice A m c, .int .i64 er2]) ∧ Hid (m = Y.length ∧ BytesR w' A Y)) ∧ Below w1.heap.size w1 w' := fun A0 c0 w1 k1 k2 k3 =>
    (text_a A0 n c0 L s w1 k1.out k2 k3 hl2).mono fun e w' ⟨h1, h2⟩ => ⟨by rw [← hY, ← her2]; exact text_u h1, h2⟩
  have TB : ∀ (w1 : World), Below w.heap.size w w1 → Calls Try.prog 11 #[.slice A n c, .string s] w1 fun e w' => (∃ A c m, e = .returned (.tuple #[.slice A m c, .int .i64 er2]) ∧ Hid (m = Y.length ∧ BytesR w' A Y)) ∧ Below w1.heap.size w1 w' := fun w1 kb =>
    (text_b A n c L s w1 (hBB w1 kb) hA hc hl2).mono fun e w' ⟨h1, h2⟩ => ⟨by rw [← hY, ← her2]; exact text_u h1, h2⟩
  clear hX her hY her2 HR
  go_enter Try.func3, Try.ntmps3
  go_wp2_with (first
    | (go_at_call 12; with_reducible refine (eq_c A4 m4 c4 Y A5 m5 c5 Y _ (⟨E4.out.1, E4.out.2.below hb5⟩) E5.out).mono ?_; rintro e w5' ⟨rfl, rfl⟩)
    | (go_at_call 12; with_reducible refine (eq_c A2 m2 c2 X A3 m3 c3 X _ (⟨E2.out.1, ((E2.out.2.below hb3).below hb4).below hb5⟩) (⟨E3.out.1, (E3.out.2.below hb4).below hb5⟩)).mono ?_; rintro e w5' ⟨rfl, rfl⟩)
    | (go_at_call 11; with_reducible refine (TB _ (below_lift hB1 hB4 hB1.size)).mono ?_; rintro e w5 ⟨⟨A5, c5, m5, rfl, E5⟩, hb5⟩; have hB5 := below_lift hB4 hb5 hB4.size)
    | (go_at_call 10; with_reducible refine (TA A0 c0 _ (Lib.hid ⟨E0.out.1, (E0.out.2.below hB2).below hb3⟩) k2 k1).mono ?_; rintro e w4 ⟨⟨A4, c4, m4, rfl, E4⟩, hb4⟩; have hB4 := below_lift hB3 hb4 hB3.size)
    | (go_at_call 9; with_reducible refine (PB _ (below_lift hB1 hB2 hB1.size)).mono ?_; rintro e w3 ⟨⟨A3, c3, m3, rfl, E3⟩, hb3⟩; have hB3 := below_lift hB2 hb3 hB2.size)
    | (go_at_call 8; with_reducible refine (PA A0 c0 _ E0 k2 k1 hB1).mono ?_; rintro e w2 ⟨⟨A2, c2, m2, rfl, E2, W2, hm2⟩, hB2⟩)
    | (go_at_call 7; with_reducible refine (copy_f A n c L _ hl0 HC.out hA).mono ?_; rintro e w1 ⟨A0, c0, rfl, k1, k2, E0, hB1⟩))
  have W5 := Lib.hid (((W2.out.below hb3).below hb4).below hb5)
  go_loopw [16] (fun y wr => ∃ i : Nat, i ≤ m2 ∧ y = .int .i64 i ∧ WrB wr w1.heap.size A2 m2 ∧ Below w1.heap.size w1 wr) (fun y _ => m2 - (intOf y).toNat)
  case atStart => exact ⟨0, Nat.zero_le _, rfl, W5.out, hB5⟩
  case round =>
    obtain ⟨i, hi, rfl, hW, hBr⟩ := hrel
    by_cases hlt : (i : Int) < (m2 : Nat)
    · obtain ⟨g, z, rfl, hg, q0, f0⟩ := hW.at_ (i := i) (by omega)
      have HW := Lib.hid hW
      clear hW
      go_wp2_with fail
      go_roundw
      case rel => exact ⟨i + 1, by omega, rfl, HW.out.set_ i _, hBr.setCell hg _⟩
      case measure => simp [intOf]; omega
    · have E0r : Hid (n = L.length ∧ BytesR wr A0 L) := ⟨E0.out.1, E0.out.2.below hBr⟩
      have ECr := Lib.hid (hBB wr (below_lift hB1 hBr hB1.size))
      have hBB' := below_lift hB1 hBr hB1.size
      clear hW
      go_wp2_with (first
        | (go_at_call 13; with_reducible refine (works_c _).mono ?_; rintro e w9 ⟨rfl, hb9⟩; have hB9 := below_lift hBB' hb9 hBB'.size)
        | (go_at_call 12; with_reducible refine (eq_c A0 n c0 L A n c L _ E0r.out ECr.out).mono ?_; rintro e w8 ⟨rfl, rfl⟩))
      go_ret
      exact ⟨rfl, hB9⟩
end Go.Proofs.Ytoknfbgbnjhgoaa
