/- PackAgain, walked. -/
import Derived.Test.YtoknfbgbnjhgoaaPackL
namespace Go.Proofs.Ytoknfbgbnjhgoaa
set_option linter.unusedVariables false
open Go.RowKit

theorem num_bad (g : Nat) (L : List UInt8) (most : Int) (w : World) (h : RdE w g L 0) {E : Int} (hE : numE L most = E) (h0 : E ≠ 0) :
    Calls Try.prog 17 #[.pointer (some ⟨g, 0, none⟩), .int .i64 most] w fun e w' => e = .returned (.int .i64 0) ∧ RdE w' g [] E ∧ Keeps (fun i => i = g) w w' :=
  (num_c g L most w h).mono fun e w' ⟨h1, h2, h3⟩ => by
    have e1 : numV L most = 0 := if_neg (by rw [hE]; exact h0)
    have e2 : numL L most = [] := if_neg (by rw [hE]; exact h0)
    rw [e1] at h1
    rw [e2, hE] at h2
    exact ⟨h1, h2, h3⟩
theorem num_ok (g : Nat) (L : List UInt8) (most : Int) (w : World) (h : RdE w g L 0) {z : Int} {M : List UInt8} (hE : numE L most = 0) (hz : numN L = z) (hM : L.drop (numS L) = M) :
    Calls Try.prog 17 #[.pointer (some ⟨g, 0, none⟩), .int .i64 most] w fun e w' => e = .returned (.int .i64 z) ∧ RdE w' g M 0 ∧ Keeps (fun i => i = g) w w' :=
  (num_c g L most w h).mono fun e w' ⟨h1, h2, h3⟩ => by
    have e1 : numV L most = numN L := if_pos hE
    have e2 : numL L most = L.drop (numS L) := if_pos hE
    rw [e1, hz] at h1
    rw [e2, hE, hM] at h2
    exact ⟨h1, h2, h3⟩
theorem put_nil (z : Int) (t : TypeId) (w : World) (h0 : okN z) {P : List UInt8} {s : Nat} (hP : enc z = P) (hs : P.length = s) :
    Calls Try.prog 8 #[.slice none 0 0, .slice (some ⟨w.heap.size, 0, none⟩) 1 1] (w.alloc (.cells #[.int .i64 z] t)) fun e w' => ∃ A c, e = .returned (.tuple #[.slice A s c, .int .i64 0]) ∧ s ≤ c ∧ (A = none → c = 0) ∧ c ≤ 9223372036854775807 ∧ BytesR w' A P ∧ Below w.heap.size w w' :=
  (put_one_a none 0 0 [] z t w ⟨rfl, BytesR.nil⟩ (fun _ => rfl) (Nat.le_refl _) (by omega) h0).mono fun e w' ⟨v, h1, h2, h3⟩ => by
    rw [List.nil_append, hP] at h2
    obtain ⟨A, c, rfl, k1, k2, k3, k4, -⟩ := h2.form
    rw [hs] at k1 h1
    exact ⟨A, c, h1, k1, k2, k4, k3, h3⟩
set_option maxHeartbeats 400000 in
theorem again_c (A : Option Addr) (n c : Nat) (L : List UInt8) (w : World) (h : n = L.length ∧ BytesR w A L) (hA : A = none → c = 0) (hc : n ≤ c) (hl : c ≤ 140737488355328) :
    Calls Try.prog 6 #[.slice A n c] w fun e w' => e = .returned (.bool true) ∧ Below w.heap.size w w' := by
  have HH := Lib.hid h
  have hl' : c ≤ 9223372036854775807 := by omega
  have hB0 : Hid (BytesR w A L) := h.2
  clear h
  by_cases hE : numE L 9007199254740991 = 0
  · have hpos := numE_pos hE
    have hP : Hid (enc (numN L) = L.take (numS L)) := enc_dec L _ hE
    obtain ⟨z, hz⟩ : ∃ z, numN L = z := ⟨_, rfl⟩
    obtain ⟨s, hs⟩ : ∃ s, numS L = s := ⟨_, rfl⟩
    obtain ⟨M, hM⟩ : ∃ M, L.drop (numS L) = M := ⟨_, rfl⟩
    have hz0 : okN z := ⟨by rw [← hz]; exact hpos.2.2.2.2.1, by rw [← hz]; exact hpos.2.2.2.2.2.1⟩
    have hMl : (n : Int) = s + (M.length : Nat) := by
      have h1 := hpos.2.2.1
      have h2 := HH.out.1
      rw [← hM, ← hs, List.length_drop]; omega
    have HE := Lib.hid hE
    have HZ := Lib.hid hz
    have HM := Lib.hid hM
    have HP : Hid (enc z = L.take s) := by show enc z = L.take s; rw [← hz, ← hs]; exact hP.out
    have HS : Hid ((L.take s).length = s) := by show (L.take s).length = s; rw [List.length_take, ← hs]; have := hpos.2.2.1; omega
    have hsn : s ≤ n := by omega
    clear hE hz hs hM hP hpos
    go_enter Try.func6, Try.ntmps6
    go_wp2_with (first
      | (go_at_call 13; with_reducible refine (works_c _).mono ?_; rintro e w5 ⟨rfl, hb5⟩; have hB5 := below_lift hB3 hb5 hB3.size)
      | (go_at_call 12; with_reducible refine (eq_c A1 s c1 (L.take s) A s c (L.take s) _ ⟨HS.out.symm, h3⟩ ⟨HS.out.symm, (hB0.out.take s).below hB3⟩).mono ?_; rintro e w4 ⟨rfl, rfl⟩)
      | (go_at_call 8; with_reducible refine (put_nil z _ _ hz0 HP.out HS.out).mono ?_; rintro e w3 ⟨A1, c1, rfl, k1, k2, k3, h3, hb3⟩; have hB3 := below_lift hB2 hb3 hB2.size)
      | (go_at_call 18; with_reducible refine (err_c g M 0 _ hR2).mono ?_; rintro e w2' ⟨rfl, rfl⟩)
      | (go_at_call 20; with_reducible refine (left_c g M 0 _ hR2).mono ?_; rintro e w2' ⟨rfl, rfl⟩)
      | (go_at_call 17; with_reducible refine (num_ok g L _ _ hR1 HE.out HZ.out HM.out).mono ?_; rintro e w2 ⟨rfl, hR2, hk2⟩; have hB2 := below_rd hB1 hk2 hB1.size hg)
      | (go_at_call 15; with_reducible refine (read_c A n c L _ HH.out hA hc hl').mono ?_; rintro e w1 ⟨rfl, hR1, hB1⟩; obtain ⟨g, hgg⟩ : ∃ g, w.heap.size = g := ⟨_, rfl⟩; have hg : w.heap.size ≤ g := (by omega); rw [hgg] at hR1; rw [hgg]))
    go_ret
    exact ⟨rfl, hB5⟩
  · rcases (numE_max L).resolve_left hE with hE3 | hE3
    · have HE := Lib.hid hE3
      have h0 : (3 : Int) ≠ 0 := by omega
      clear hE hE3
      have hend : endE [] 3 = 3 := rfl
      go_enter Try.func6, Try.ntmps6
      go_wp2_with (first
        | (go_at_call 13; with_reducible refine (works_c _).mono ?_; rintro e w5 ⟨rfl, hb5⟩; have hB5 := below_lift hB2 hb5 hB2.size)
        | (go_at_call 21; with_reducible refine (end_c g [] 3 _ hR2).mono ?_; rintro e w2' ⟨rfl, rfl⟩; rw [hend])
        | (go_at_call 18; with_reducible refine (err_c g [] 3 _ hR2).mono ?_; rintro e w2' ⟨rfl, rfl⟩)
        | (go_at_call 20; with_reducible refine (left_c g [] 3 _ hR2).mono ?_; rintro e w2' ⟨rfl, rfl⟩)
        | (go_at_call 17; with_reducible refine (num_bad g L _ _ hR1 HE.out h0).mono ?_; rintro e w2 ⟨rfl, hR2, hk2⟩; have hB2 := below_rd hB1 hk2 hB1.size hg)
        | (go_at_call 15; with_reducible refine (read_c A n c L _ HH.out hA hc hl').mono ?_; rintro e w1 ⟨rfl, hR1, hB1⟩; obtain ⟨g, hgg⟩ : ∃ g, w.heap.size = g := ⟨_, rfl⟩; have hg : w.heap.size ≤ g := (by omega); rw [hgg] at hR1; rw [hgg]))
      go_ret
      exact ⟨rfl, hB5⟩
    · have HE := Lib.hid hE3
      have h0 : (4 : Int) ≠ 0 := by omega
      clear hE hE3
      have hend : endE [] 4 = 4 := rfl
      go_enter Try.func6, Try.ntmps6
      go_wp2_with (first
        | (go_at_call 13; with_reducible refine (works_c _).mono ?_; rintro e w5 ⟨rfl, hb5⟩; have hB5 := below_lift hB2 hb5 hB2.size)
        | (go_at_call 21; with_reducible refine (end_c g [] 4 _ hR2).mono ?_; rintro e w2' ⟨rfl, rfl⟩; rw [hend])
        | (go_at_call 18; with_reducible refine (err_c g [] 4 _ hR2).mono ?_; rintro e w2' ⟨rfl, rfl⟩)
        | (go_at_call 20; with_reducible refine (left_c g [] 4 _ hR2).mono ?_; rintro e w2' ⟨rfl, rfl⟩)
        | (go_at_call 17; with_reducible refine (num_bad g L _ _ hR1 HE.out h0).mono ?_; rintro e w2 ⟨rfl, hR2, hk2⟩; have hB2 := below_rd hB1 hk2 hB1.size hg)
        | (go_at_call 15; with_reducible refine (read_c A n c L _ HH.out hA hc hl').mono ?_; rintro e w1 ⟨rfl, hR1, hB1⟩; obtain ⟨g, hgg⟩ : ∃ g, w.heap.size = g := ⟨_, rfl⟩; have hg : w.heap.size ≤ g := (by omega); rw [hgg] at hR1; rw [hgg]))
      go_ret
      exact ⟨rfl, hB5⟩
end Go.Proofs.Ytoknfbgbnjhgoaa
