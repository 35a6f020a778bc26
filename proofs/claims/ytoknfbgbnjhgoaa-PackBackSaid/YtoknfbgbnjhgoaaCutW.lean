/- PackCut, walked. -/
import Derived.Test.YtoknfbgbnjhgoaaAgainW
import Derived.Deep.DeepCutAuto
namespace Go.Proofs.Ytoknfbgbnjhgoaa
set_option linter.unusedVariables false
open Go.RowKit

theorem put_nil_e (z : Int) (t : TypeId) (w : World) (h0 : okN z) :
    Calls Try.prog 8 #[.slice none 0 0, .slice (some ⟨w.heap.size, 0, none⟩) 1 1] (w.alloc (.cells #[.int .i64 z] t)) fun e w' => ∃ A c n, e = .returned (.tuple #[.slice A n c, .int .i64 0]) ∧ Hid (n = (enc z).length) ∧ 1 ≤ n ∧ n ≤ c ∧ (A = none → c = 0) ∧ c ≤ 9223372036854775807 ∧ BytesR w' A (enc z) ∧ Below w.heap.size w w' :=
  (put_nil z t w h0 rfl rfl).mono fun e w' ⟨A, c, h1, h2, h3, h4, h5, h6⟩ => ⟨A, c, _, h1, Lib.hid rfl, by rcases enc_len z with h | h <;> omega, h2, h3, h4, h5, h6⟩
theorem text_nil (s : ByteArray) (w : World) (hs : s.size ≤ 65536) :
    Calls Try.prog 10 #[.slice none 0 0, .string s] w fun e w' => ∃ A c n, e = .returned (.tuple #[.slice A n c, .int .i64 0]) ∧ Hid (n = (enc (s.size : Nat) ++ sbs s).length) ∧ 1 ≤ n ∧ n ≤ c ∧ (A = none → c = 0) ∧ c ≤ 9223372036854775807 ∧ BytesR w' A (enc (s.size : Nat) ++ sbs s) ∧ Below w.heap.size w w' :=
  (text_a none 0 0 [] s w ⟨rfl, BytesR.nil⟩ (fun _ => rfl) (Nat.le_refl _) (by omega)).mono fun e w' ⟨h1, h2⟩ => by
    rcases h1 with ⟨_, v, h1, hO⟩ | ⟨h1, _⟩
    · rw [List.nil_append] at hO
      obtain ⟨A, c, rfl, k1, k2, k3, k4, -⟩ := hO.form
      exact ⟨A, c, _, h1, Lib.hid rfl, by rw [List.length_append]; rcases enc_len (s.size : Nat) with h | h <;> omega, k1, k2, k4, k3, h2⟩
    · omega
theorem read_cut {A : Option Addr} {n c k : Nat} {X : List UInt8} {w : World} (h : BytesR w A X) (hn : n = X.length) (hk : k < n) (hA : A = none → c = 0) (hc : n ≤ c) (hl : c ≤ 9223372036854775807) :
    Calls Try.prog 15 #[.slice A k c] w fun e w' => e = .returned (.pointer (some ⟨w.heap.size, 0, none⟩)) ∧ RdE w' w.heap.size (X.take k) 0 ∧ Below w.heap.size w w' :=
  read_c A k c (X.take k) w ⟨by rw [List.length_take]; omega, h.take k⟩ hA (by omega) hl
theorem cut_e1 {z : Int} {n k : Nat} (h : okN z) (hn : n = (enc z).length) (hk : k < n) : numE ((enc z).take k) 9007199254740991 = 3 := cut_enc h (by omega) _
theorem cut_e2 {s : ByteArray} {n k : Nat} (hs : s.size ≤ 600) (hn : n = (enc (s.size : Nat) ++ sbs s).length) (hk : k < n) : txE ((enc (s.size : Nat) ++ sbs s).take k) 600 = 3 :=
  cut_text ⟨by omega, by omega⟩ (sbs s) (by rw [sbs_length]) (by omega) (by omega)
theorem bring_any (i : Int) (n : Nat) (hn : 0 < n) (hn' : n ≤ 9223372036854775807) : ∃ k, k < n ∧ ∀ w, Calls Try.prog 16 #[.int .i64 i, .int .i64 (n : Nat)] w fun e w' => e = .returned (.int .i64 (k : Nat)) ∧ w = w' :=
  ⟨bringN i n, bringN_lt i n hn, fun w => bring_n i n n w rfl hn hn'⟩
theorem rtext_bad (g : Nat) (L : List UInt8) (most : Int) (w : World) (h : RdE w g L 0) {E : Int} (hE : txE L most = E) (h0 : E ≠ 0) :
    Calls Try.prog 19 #[.pointer (some ⟨g, 0, none⟩), .int .i64 most] w fun e w' => e = .returned (.string { data := #[] }) ∧ RdE w' g [] E ∧ Keeps (fun i => i = g) w w' :=
  (rtext_c g L most w h).mono fun e w' ⟨h1, h2, h3⟩ => by
    have e1 : txS L most = [] := if_neg (by rw [hE]; exact h0)
    have e2 : txL L most = [] := if_neg (by rw [hE]; exact h0)
    rw [e1] at h1
    rw [e2, hE] at h2
    exact ⟨h1, h2, h3⟩
theorem RdE.keeps_other {w w' : World} {g g' : Nat} {L : List UInt8} {e e' : Int} {L' : List UInt8} (h : RdE w g L e) (h' : RdE w g' L' e') (hne : g ≠ g') (k : Keeps (fun i => i = g') w w') : RdE w' g L e := by
  obtain ⟨A, c, h⟩ := h
  obtain ⟨A', c', h'⟩ := h'
  refine ⟨A, c, k.blk h.blk hne, fun hL => ?_, h.cap, h.nil, h.lim⟩
  obtain ⟨b, off, hA, hb, hbg, hx⟩ := h.src hL
  have hbg' : b ≠ g' := by
    rintro rfl
    obtain ⟨x, R, rfl⟩ : ∃ x R, L = x :: R := by cases L with | nil => exact absurd rfl hL | cons x R => exact ⟨x, R, rfl⟩
    have e := hx 0 x rfl
    rw [h'.blk.cell] at e
    rcases off with _ | _ | off
    · simp at e
    · simp at e
    · simp at e
  exact ⟨b, off, hA, Nat.lt_of_lt_of_le hb k.size, hbg, fun i x hi => (k.cell (p := ⟨b, off + i, none⟩) hb hbg').trans (hx i x hi)⟩
theorem ne_zero {n : Nat} (h : 1 ≤ n) : ((n : Int) == 0) = false := by simp; omega
theorem size_extract (s : ByteArray) (k : Nat) (h : k ≤ s.size) : (s.extract 0 k).size = k := by rw [ByteArray.size_extract]; omega
set_option maxRecDepth 20000 in
set_option maxHeartbeats 400000 in
theorem cut_c (n : Int) (s : ByteArray) (at_ : Int) (w : World) (hn : -9223372036854775808 ≤ n) (hn' : n ≤ 9223372036854775807) (hs : s.size ≤ 140737488355328) :
    Calls Try.prog 4 #[.int .i64 n, .string s, .int .i64 at_] w fun e w' => e = .returned (.bool true) ∧ Below w.heap.size w w' := by
  obtain ⟨z, hz0, hN⟩ := number_c n hn hn'
  go_enter Try.func4, Try.ntmps4
  go_upto_region 1 with fail
  go_cut [1] (fun v wx => (∃ S : ByteArray, v = .string S ∧ S.size ≤ 600) ∧ wx = w)
  case first =>
    by_cases h600 : (600 : Int) < (s.size : Nat)
    · have hx := size_extract s 600 (by omega)
      go_wp2_with fail
      all_goals go_meet
      all_goals exact ⟨⟨_, rfl, by omega⟩, rfl⟩
    · go_wp2_with fail
      all_goals go_meet
      all_goals exact ⟨⟨_, rfl, by omega⟩, rfl⟩
  case rest =>
    obtain ⟨⟨S, rfl, hS⟩, rfl⟩ := hcut
    have hS5 : S.size ≤ 65536 := by omega
    go_wp2_with (first
      | (go_at_call 13; with_reducible refine (works_c _).mono ?_; rintro e w9 ⟨rfl, hb9⟩; have hB9 := below_lift hB8 hb9 hB8.size)
      | (go_at_call 18; with_reducible refine (err_c g2 [] 3 _ hY8).mono ?_; rintro e w8' ⟨rfl, rfl⟩)
      | (go_at_call 19; with_reducible refine (rtext_bad g2 _ _ _ hY7 (cut_e2 hS E2.out hk2) (by omega)).mono ?_; rintro e w8 ⟨rfl, hY8, hK8⟩; have hB8 := below_rd hB7 hK8 hB7.size hg2)
      | (go_at_call 18; with_reducible refine (err_c g1 [] 3 _ hX7).mono ?_; rintro e w7' ⟨rfl, rfl⟩)
      | (go_at_call 17; with_reducible refine (num_bad g1 _ _ _ hX6 (cut_e1 hz0 E1.out hk1) (by omega)).mono ?_; rintro e w7 ⟨rfl, hX7, hK7⟩; have hB7 := below_rd hB6 hK7 hB6.size hg1; have hY7 := hY6.keeps_other hX6 hne hK7)
      | (go_at_call 15; with_reducible refine (read_cut (hT4.below hb5) E2.out hk2 q3 q2 q4).mono ?_; rintro e w6 ⟨rfl, hY6, hb6⟩; obtain ⟨g2, hgg2⟩ : ∃ g, w5.heap.size = g := ⟨_, rfl⟩; have hg2 := (show wc.heap.size ≤ g2 by rw [← hgg2]; exact hB5.size); have hX6 := hX5.below hb6; have hne := (show g2 ≠ g1 by have := hX5.lt; omega); rw [hgg2] at hY6; rw [hgg2]; have hB6 := below_lift hB5 hb6 hB5.size)
      | (go_at_call 16; obtain ⟨k2, hk2, hr2⟩ := bring_any at_ n2 (by omega) (by omega); with_reducible refine (hr2 _).mono ?_; rintro e w5' ⟨rfl, rfl⟩)
      | (go_at_call 15; with_reducible refine (read_cut (hx1.below hb4) E1.out hk1 p3 p2 p4).mono ?_; rintro e w5 ⟨rfl, hX5, hb5⟩; obtain ⟨g1, hgg1⟩ : ∃ g, w4.heap.size = g := ⟨_, rfl⟩; have hg1 := (show wc.heap.size ≤ g1 by rw [← hgg1]; exact hB4.size); rw [hgg1] at hX5; rw [hgg1]; have hB5 := below_lift hB4 hb5 hB4.size)
      | (go_at_call 16; obtain ⟨k1, hk1, hr1⟩ := bring_any at_ n1 (by omega) (by omega); with_reducible refine (hr1 _).mono ?_; rintro e w4' ⟨rfl, rfl⟩)
      | (go_at_call 10; with_reducible refine (text_nil S _ hS5).mono ?_; rintro e w4 ⟨A2, c2, n2, rfl, E2, q1, q2, q3, q4, hT4, hb4⟩; have z2 := ne_zero q1; have hB4 := below_lift hB2 hb4 hB2.size)
      | (go_at_call 8; with_reducible refine (put_nil_e z _ _ hz0).mono ?_; rintro e w2 ⟨A1, c1, n1, rfl, E1, p1, p2, p3, p4, hx1, hB2⟩; have z1 := ne_zero p1)
      | (go_at_call 14; with_reducible refine (hN _).mono ?_; rintro e w1' ⟨rfl, rfl⟩))
    go_ret
    exact ⟨rfl, hB9⟩
end Go.Proofs.Ytoknfbgbnjhgoaa
