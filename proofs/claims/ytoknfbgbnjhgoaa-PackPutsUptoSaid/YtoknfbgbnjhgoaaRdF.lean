/- The program's reader: Text. -/
import Derived.Test.YtoknfbgbnjhgoaaRdE
namespace Go.Proofs.Ytoknfbgbnjhgoaa
set_option linter.unusedVariables false
open Go.RowKit

def txE (L : List UInt8) (most : Int) : Int := if numE L most = 0 then (if ((L.drop (numS L)).length : Int) < numN L then 3 else 0) else numE L most
def txS (L : List UInt8) (most : Int) : List UInt8 := if txE L most = 0 then (L.drop (numS L)).take (numN L).toNat else []
def txL (L : List UInt8) (most : Int) : List UInt8 := if txE L most = 0 then (L.drop (numS L)).drop (numN L).toNat else []
def tw (w : World) (g : Nat) : World := (w.alloc (.cells #[.pointer (some ⟨g, 0, none⟩)] 33)).alloc (.cells #[.string ByteArray.empty] 9)
theorem tw_below (w : World) (g : Nat) : Below w.heap.size w (tw w g) := ((Below.refl _ _).alloc (Nat.le_refl _) _).alloc (by simp) _
theorem tw_size (w : World) (g : Nat) : (tw w g).heap.size = w.heap.size + 1 + 1 := by simp [tw]
theorem tw_p (w : World) (g : Nat) : Blk (tw w g) w.heap.size 33 #[.pointer (some ⟨g, 0, none⟩)] := (Blk.new w _ _).alloc _
theorem tw_t (w : World) (g : Nat) : Blk (tw w g) (w.heap.size + 1) 9 #[.string ByteArray.empty] := by
  have := Blk.new (w.alloc (.cells #[.pointer (some ⟨g, 0, none⟩)] 33)) 9 #[.string ByteArray.empty]
  rwa [show (w.alloc (.cells #[.pointer (some ⟨g, 0, none⟩)] 33)).heap.size = w.heap.size + 1 by simp] at this
/-- What stands behind the first call. -/
structure Mid (w : World) (g : Nat) (w1 : World) : Prop where
  p : Blk w1 w.heap.size 33 #[.pointer (some ⟨g, 0, none⟩)]
  t : Blk w1 (w.heap.size + 1) 9 #[.string ByteArray.empty]
  k : Keeps (fun i => i = g) w w1
theorem mid_of {w w1 : World} {g : Nat} {L : List UInt8} (h : RdE w g L 0) (k : Keeps (fun i => i = g) (tw w g) w1) : Mid w g w1 := by
  have hl := h.lt
  exact ⟨k.blk (tw_p w g) (by omega), k.blk (tw_t w g) (by omega), (Keeps.of_below (S := fun i => i = g) (tw_below w g)).trans k (fun i hi => .inl hi)⟩
theorem text_num (g : Nat) (L : List UInt8) (most : Int) (w : World) (h : RdE w g L 0) :
    Calls Try.prog 17 #[.pointer (some ⟨g, 0, none⟩), .int .i64 most] ((w.alloc (.cells #[.pointer (some ⟨g, 0, none⟩)] 33)).alloc (.cells #[.string { data := #[] }] 9)) fun e w' => e = .returned (.int .i64 (numV L most)) ∧ RdE w' g (numL L most) (numE L most) ∧ Mid w g w' :=
  (num_c g L most _ (h.below (tw_below w g))).mono fun e w' ⟨h1, h2, h3⟩ => ⟨h1, h2, mid_of h h3⟩
theorem mid_q {w w1 : World} {g : Nat} (m : Mid w g w1) : w.heap.size < w1.heap.size ∧ w.heap.size + 1 < w1.heap.size := ⟨m.p.lt, m.t.lt⟩
theorem Mid.alloc {w w1 : World} {g : Nat} (m : Mid w g w1) (o : Obj) : Mid w g (w1.alloc o) := ⟨m.p.alloc o, m.t.alloc o, m.k.alloc o⟩
theorem rd_set_t {w : World} {g t : Nat} {L : List UInt8} {e : Int} {s0 : ByteArray} (h : RdE w g L e) (ht : Blk w t 9 #[.string s0]) (u : Value) : RdE (w.setCell ⟨t, 0, none⟩ u) g L e := by
  obtain ⟨A, c, h⟩ := h
  exact ⟨A, c, h.keepst ht (keeps_q _ _ _)⟩
theorem text_step_f {w w1 : World} {g : Nat} {L : List UInt8} {E : Int} {cl : Value} {n : Int} (m : Mid w g w1) (h : RdE w1 g L E) (hE : E ≠ 0) :
    Calls Try.prog 23 #[.pointer (some ⟨g, 0, none⟩), cl] (w1.alloc (.cells #[.int .i64 n] 3)) fun e w' => e = .returned (.bool false) ∧ RdE w' g L E ∧ Blk w' (w.heap.size + 1) 9 #[.string ByteArray.empty] ∧ Keeps (gq g (w.heap.size + 1)) w w' :=
  (step_f g L E cl _ (h.below ((Below.refl _ _).alloc (Nat.le_refl _) _)) hE).mono fun e w' ⟨h1, h2⟩ => ⟨h1, by rw [← h2]; exact h.below ((Below.refl _ _).alloc (Nat.le_refl _) _), by rw [← h2]; exact m.t.alloc _, by rw [← h2]; exact ((m.k.mono fun i hi => .inl hi).alloc _)⟩
theorem text_step_bad {w w1 : World} {g : Nat} {L : List UInt8} {n : Nat} (m : Mid w g w1) (h : RdE w1 g L 0) (hn : (L.length : Int) < n) :
    Calls Try.prog 23 #[.pointer (some ⟨g, 0, none⟩), .func (.func 25) #[] #[.pointer (some ⟨w.heap.size, 0, none⟩), .pointer (some ⟨w1.heap.size, 0, none⟩), .pointer (some ⟨w.heap.size + 1, 0, none⟩)]] (w1.alloc (.cells #[.int .i64 n] 3))
      fun e w' => e = .returned (.bool false) ∧ RdE w' g [] 3 ∧ Blk w' (w.heap.size + 1) 9 #[.string ByteArray.empty] ∧ Keeps (gq g (w.heap.size + 1)) w w' :=
  (stept_bad _ _ _ g L n ByteArray.empty _ (h.below ((Below.refl _ _).alloc (Nat.le_refl _) _)) (m.alloc _).p (Blk.new _ _ _) hn).mono fun e w' ⟨h1, h2, h3⟩ =>
    ⟨h1, h2, h3.blk (m.alloc _).t (by intro e; obtain ⟨A, c, h⟩ := h; exact absurd e.symm (h.blk.ne_ m.t (by decide))), ((m.alloc _).k.mono fun i hi => .inl hi).trans h3 fun i hi => .inl (.inl hi)⟩
theorem text_step_ok {w w1 : World} {g : Nat} {L : List UInt8} {n : Nat} (m : Mid w g w1) (h : RdE w1 g L 0) (hn : (n : Int) ≤ (L.length : Nat)) :
    Calls Try.prog 23 #[.pointer (some ⟨g, 0, none⟩), .func (.func 25) #[] #[.pointer (some ⟨w.heap.size, 0, none⟩), .pointer (some ⟨w1.heap.size, 0, none⟩), .pointer (some ⟨w.heap.size + 1, 0, none⟩)]] (w1.alloc (.cells #[.int .i64 n] 3))
      fun e w' => e = .returned (.bool true) ∧ RdE w' g (L.drop n) 0 ∧ Blk w' (w.heap.size + 1) 9 #[.string (str (L.take n))] ∧ Keeps (gq g (w.heap.size + 1)) w w' :=
  (stept_ok _ _ _ g L n ByteArray.empty _ (h.below ((Below.refl _ _).alloc (Nat.le_refl _) _)) (m.alloc _).p (Blk.new _ _ _) (m.alloc _).t hn).mono fun e w' ⟨h1, h2, h3, h4⟩ =>
    ⟨h1, h2, h3, ((m.alloc _).k.mono fun i hi => .inl hi).trans h4 fun i hi => .inl hi⟩
theorem keeps_gt {w w' : World} {g : Nat} (k : Keeps (gq g (w.heap.size + 1)) w w') : Keeps (fun i => i = g) w w' :=
  ⟨k.os, k.tape, k.output, k.size, fun i hi hn => k.block i hi (by rintro (h | h) <;> omega)⟩
set_option maxHeartbeats 400000 in
theorem rtext_c (g : Nat) (L : List UInt8) (most : Int) (w : World) (h : RdE w g L 0) :
    Calls Try.prog 19 #[.pointer (some ⟨g, 0, none⟩), .int .i64 most] w fun e w' => e = .returned (.string (str (txS L most))) ∧ RdE w' g (txL L most) (txE L most) ∧ Keeps (fun i => i = g) w w' := by
  have HH := Lib.hid h
  have HN := fun W => text_num g L most W
  clear h
  by_cases hE : numE L most = 0
  · have hv : numV L most = numN L := if_pos hE
    have hl : numL L most = L.drop (numS L) := if_pos hE
    have hpos := (numE_pos hE).2.2.2.2.1
    rw [hv, hl, hE] at HN
    obtain ⟨n, hn⟩ : ∃ n : Nat, numN L = n := ⟨(numN L).toNat, by omega⟩
    obtain ⟨M, hM⟩ : ∃ M, L.drop (numS L) = M := ⟨_, rfl⟩
    rw [hn, hM] at HN
    by_cases hlen : (M.length : Int) < n
    · have hX : Hid (txE L most = 3) := by
        show txE L most = 3
        unfold txE; rw [if_pos hE, hM, hn, if_pos hlen]
      clear hE hv hl hpos hn hM
      go_enter Try.func19, Try.ntmps19
      go_wp2_with (first
        | (go_at_call 23; with_reducible refine (text_step_bad m h1 hlen).mono ?_; rintro e w2 ⟨rfl, h2, ht, hk⟩; have c0 : w2.cell? ⟨w.heap.size + 1, 0, none⟩ = some (.string ByteArray.empty) := (ht.cell 0).trans rfl; have f0 := ht.frozen 0)
        | (go_at_call 17; with_reducible refine (HN w HH.out).mono ?_; rintro e w1 ⟨rfl, h1, m⟩; have hq := mid_q m; have cp : w1.cell? ⟨w.heap.size, 0, none⟩ = some (.pointer (some ⟨g, 0, none⟩)) := (m.p.cell 0).trans rfl))
      have cc := ((ht.set_ 0 (.string ByteArray.empty)).cell 0)
      have hs0 : txS L most = [] := if_neg (by rw [hX.out]; omega)
      have hl0 : txL L most = [] := if_neg (by rw [hX.out]; omega)
      refine bodyPost_ret (v := .string ByteArray.empty) (by simp [results, Try.results19, go_sem, cc] <;> rfl) rfl ⟨by rw [hs0]; rfl, ?_, keeps_gt (hk.setCell (.inl (.inr rfl)) _)⟩
      rw [hl0, hX.out]
      exact rd_set_t h2 ht _
    · have hX : Hid (txE L most = 0) := by
        show txE L most = 0
        unfold txE; rw [if_pos hE, hM, hn, if_neg hlen]
      have hS : Hid (txS L most = M.take n) := by
        show txS L most = M.take n
        unfold txS; rw [if_pos hX.out, hM, hn]; rfl
      have hLL : Hid (txL L most = M.drop n) := by
        show txL L most = M.drop n
        unfold txL; rw [if_pos hX.out, hM, hn]; rfl
      have hlen' : (n : Int) ≤ (M.length : Nat) := by omega
      clear hE hv hl hpos hn hM
      go_enter Try.func19, Try.ntmps19
      go_wp2_with (first
        | (go_at_call 23; with_reducible refine (text_step_ok m h1 hlen').mono ?_; rintro e w2 ⟨rfl, h2, ht, hk⟩; have c0 : w2.cell? ⟨w.heap.size + 1, 0, none⟩ = some (.string (str (M.take n))) := (ht.cell 0).trans rfl; have f0 := ht.frozen 0)
        | (go_at_call 17; with_reducible refine (HN w HH.out).mono ?_; rintro e w1 ⟨rfl, h1, m⟩; have hq := mid_q m; have cp : w1.cell? ⟨w.heap.size, 0, none⟩ = some (.pointer (some ⟨g, 0, none⟩)) := (m.p.cell 0).trans rfl))
      have cc := ((ht.set_ 0 (.string (str (M.take n)))).cell 0)
      refine bodyPost_ret (v := .string (str (M.take n))) (by simp [results, Try.results19, go_sem, cc] <;> rfl) rfl ⟨by rw [hS.out], ?_, keeps_gt (hk.setCell (.inl (.inr rfl)) _)⟩
      rw [hLL.out, hX.out]
      exact rd_set_t h2 ht _
  · have hv : numV L most = 0 := if_neg hE
    have hl : numL L most = [] := if_neg hE
    obtain ⟨E, hEE⟩ : ∃ E, numE L most = E := ⟨_, rfl⟩
    have hX : Hid (txE L most = E) := by
      show txE L most = E
      unfold txE; rw [if_neg hE, hEE]
    rw [hv, hl, hEE] at HN
    rw [hEE] at hE
    clear hv hl hEE
    go_enter Try.func19, Try.ntmps19
    go_wp2_with (first
      | (go_at_call 23; with_reducible refine (text_step_f m h1 hE).mono ?_; rintro e w2 ⟨rfl, h2, ht, hk⟩; have c0 : w2.cell? ⟨w.heap.size + 1, 0, none⟩ = some (.string ByteArray.empty) := (ht.cell 0).trans rfl; have f0 := ht.frozen 0)
      | (go_at_call 17; with_reducible refine (HN w HH.out).mono ?_; rintro e w1 ⟨rfl, h1, m⟩; have hq := mid_q m; have cp : w1.cell? ⟨w.heap.size, 0, none⟩ = some (.pointer (some ⟨g, 0, none⟩)) := (m.p.cell 0).trans rfl))
    have cc := ((ht.set_ 0 (.string ByteArray.empty)).cell 0)
    have hs0 : txS L most = [] := if_neg (by rw [hX.out]; exact hE)
    have hl0 : txL L most = [] := if_neg (by rw [hX.out]; exact hE)
    refine bodyPost_ret (v := .string ByteArray.empty) (by simp [results, Try.results19, go_sem, cc] <;> rfl) rfl ⟨by rw [hs0]; rfl, ?_, keeps_gt (hk.setCell (.inl (.inr rfl)) _)⟩
    rw [hl0, hX.out]
    exact rd_set_t h2 ht _
end Go.Proofs.Ytoknfbgbnjhgoaa
