/- The program's reader: Text. -/
import Derived.Test.YtoknfbgbnjhgoaaRdD
namespace Go.Proofs.Ytoknfbgbnjhgoaa
set_option linter.unusedVariables false
open Go.RowKit

theorem Rd.bytes {w : World} {g : Nat} {A : Option Addr} {c : Nat} {L : List UInt8} {e : Int} (h : Rd w g A c L e) : BytesR w A L := fun hL => by
  obtain ⟨b, off, h1, h2, _, h3⟩ := h.src hL
  exact ⟨b, off, h1, h2, h3⟩
def str (L : List UInt8) : ByteArray := ⟨L.toArray⟩
set_option maxHeartbeats 400000 in
theorem text1_short (p q t g : Nat) (A : Option Addr) (c : Nat) (L : List UInt8) (n : Nat) (s0 : ByteArray) (w : World) (h : Rd w g A c L 0) (hp : Blk w p 33 #[.pointer (some ⟨g, 0, none⟩)])
    (hq : Blk w q 3 #[.int .i64 n]) (hn : (L.length : Int) < n) :
    Calls Try.prog 25 #[.pointer (some ⟨p, 0, none⟩), .pointer (some ⟨q, 0, none⟩), .pointer (some ⟨t, 0, none⟩)] w fun e w' => e = .returned (.tuple #[.int .i64 0, .int .i64 3]) ∧ Below w.heap.size w w' := by
  have cp : w.cell? ⟨p, 0, none⟩ = some (.pointer (some ⟨g, 0, none⟩)) := (hp.cell 0).trans rfl
  have cq : w.cell? ⟨q, 0, none⟩ = some (.int .i64 n) := (hq.cell 0).trans rfl
  have cg : w.cell? ⟨g, 0, none⟩ = some (.slice A L.length c) := (h.blk.cell 0).trans rfl
  clear h hp hq
  go_enter Try.func25, Try.ntmps25
  go_wp2_with fail
  go_quiet (fail)
  go_wp2
  go_ret2
  exact ⟨rfl, below_drewN (Below.refl _ _) _⟩
set_option maxHeartbeats 400000 in
theorem text1_ok (p q t g : Nat) (A : Option Addr) (c : Nat) (L : List UInt8) (n : Nat) (s0 : ByteArray) (w : World) (h : Rd w g A c L 0) (hp : Blk w p 33 #[.pointer (some ⟨g, 0, none⟩)])
    (hq : Blk w q 3 #[.int .i64 n]) (ht : Blk w t 9 #[.string s0]) (hn : (n : Int) ≤ (L.length : Nat)) :
    Calls Try.prog 25 #[.pointer (some ⟨p, 0, none⟩), .pointer (some ⟨q, 0, none⟩), .pointer (some ⟨t, 0, none⟩)] w fun e w' => e = .returned (.tuple #[.int .i64 n, .int .i64 0]) ∧ Blk w' t 9 #[.string (str (L.take n))] ∧ Keeps (fun i => i = t) w w' := by
  have cp : w.cell? ⟨p, 0, none⟩ = some (.pointer (some ⟨g, 0, none⟩)) := (hp.cell 0).trans rfl
  have cq : w.cell? ⟨q, 0, none⟩ = some (.int .i64 n) := (hq.cell 0).trans rfl
  have cg : w.cell? ⟨g, 0, none⟩ = some (.slice A L.length c) := (h.blk.cell 0).trans rfl
  have ct : w.cell? ⟨t, 0, none⟩ = some (.string s0) := (ht.cell 0).trans rfl
  have ft : w.frozen? ⟨t, 0, none⟩ = false := ht.frozen 0
  have hlc : (L.length : Int) ≤ c := by have := h.cap; omega
  have hlim := h.lim
  have hqt : q ≠ t := hq.ne_ ht (by decide)
  have hk := fun m => run_string A n c (L.take n) (w.drewN m) (by simp; omega) ((h.bytes.take n).below (below_drewN (Below.refl _ _) m))
  clear h hp hq
  go_enter Try.func25, Try.ntmps25
  go_wp2_with fail
  go_quiet (fail)
  go_wp2_with fail
  have hk' := hk (nq + 1)
  have hnc : n ≤ c := by omega
  go_region
  all_goals go_wp2
  go_ret2
  exact ⟨rfl, (ht.drewN _).set_ 0 _, Keeps.setCell (S := fun i => i = t) ((Keeps.refl _ _).drewN _) (.inl rfl) _⟩
section
variable {w w' : World} {g t : Nat} {A : Option Addr} {c : Nat} {L : List UInt8} {e : Int} {s0 : ByteArray}
theorem Rd.ne_t (h : Rd w g A c L e) (hq : Blk w t 9 #[.string s0]) {b off : Nat} (hL : L ≠ []) (hA : A = some ⟨b, off, none⟩) : b ≠ t := by
  obtain ⟨b', off', hA', hb, hbg, hx⟩ := h.src hL
  rw [hA] at hA'
  simp only [Option.some.injEq, Addr.mk.injEq, and_true] at hA'
  obtain ⟨rfl, rfl⟩ := hA'
  rintro rfl
  obtain ⟨x, R, rfl⟩ : ∃ x R, L = x :: R := by cases L with | nil => exact absurd rfl hL | cons x R => exact ⟨x, R, rfl⟩
  have e := hx 0 x rfl
  rw [hq.cell] at e
  rcases off with _ | off
  · simp at e
  · simp at e
theorem Rd.keepst (h : Rd w g A c L e) (hq : Blk w t 9 #[.string s0]) (k : Keeps (fun i => i = t) w w') : Rd w' g A c L e := by
  refine ⟨k.blk h.blk (h.blk.ne_ hq (by decide)), fun hL => ?_, h.cap, h.nil, h.lim⟩
  obtain ⟨b, off, hA, hb, hbg, hx⟩ := h.src hL
  exact ⟨b, off, hA, Nat.lt_of_lt_of_le hb k.size, hbg, fun i x hi => (k.cell (p := ⟨b, off + i, none⟩) hb (h.ne_t hq hL hA)).trans (hx i x hi)⟩
end
set_option maxHeartbeats 400000 in
theorem stept_bad (p q t g : Nat) (L : List UInt8) (n : Nat) (s0 : ByteArray) (w : World) (h : RdE w g L 0) (hp : Blk w p 33 #[.pointer (some ⟨g, 0, none⟩)])
    (hq : Blk w q 3 #[.int .i64 n]) (hn : (L.length : Int) < n) :
    Calls Try.prog 23 #[.pointer (some ⟨g, 0, none⟩), .func (.func 25) #[] #[.pointer (some ⟨p, 0, none⟩), .pointer (some ⟨q, 0, none⟩), .pointer (some ⟨t, 0, none⟩)]] w
      fun e w' => e = .returned (.bool false) ∧ RdE w' g [] 3 ∧ Keeps (fun i => i = g) w w' := by
  obtain ⟨A, c, h⟩ := h
  have hc : w.cell? ⟨g, 1, none⟩ = some (.int .i64 0) := (h.blk.cell 1).trans rfl
  have HH := Lib.hid h
  clear h
  go_enter Try.func23, Try.ntmps23
  go_wp2_with (go_at_call 25; with_reducible refine (text1_short p q t g A c L n ByteArray.empty _ HH.out hp hq hn).mono ?_; rintro e w1 ⟨rfl, hK⟩; have hR := HH.out.below hK; have c0 : w1.cell? ⟨g, 0, none⟩ = some (.slice A L.length c) := (hR.blk.cell 0).trans rfl; have c1 : w1.cell? ⟨g, 1, none⟩ = some (.int .i64 0) := (hR.blk.cell 1).trans rfl; have f0 := hR.blk.frozen 0; have f1 := hR.blk.frozen 1)
  go_ret
  exact ⟨rfl, ⟨none, 0, (hR.blk.set_ 0 _).set_ 1 _, fun h => absurd rfl h, Nat.le_refl _, fun _ => rfl, by omega⟩, Keeps.setCell (S := fun i => i = g) (Keeps.setCell (S := fun i => i = g) (Keeps.of_below hK) (.inl rfl) _) (.inl rfl) _⟩
set_option maxHeartbeats 400000 in
theorem stept_ok (p q t g : Nat) (L : List UInt8) (n : Nat) (s0 : ByteArray) (w : World) (h : RdE w g L 0) (hp : Blk w p 33 #[.pointer (some ⟨g, 0, none⟩)])
    (hq : Blk w q 3 #[.int .i64 n]) (ht : Blk w t 9 #[.string s0]) (hn : (n : Int) ≤ (L.length : Nat)) :
    Calls Try.prog 23 #[.pointer (some ⟨g, 0, none⟩), .func (.func 25) #[] #[.pointer (some ⟨p, 0, none⟩), .pointer (some ⟨q, 0, none⟩), .pointer (some ⟨t, 0, none⟩)]] w
      fun e w' => e = .returned (.bool true) ∧ RdE w' g (L.drop n) 0 ∧ Blk w' t 9 #[.string (str (L.take n))] ∧ Keeps (gq g t) w w' := by
  obtain ⟨A, c, h⟩ := h
  have hc : w.cell? ⟨g, 1, none⟩ = some (.int .i64 0) := (h.blk.cell 1).trans rfl
  have hlc := h.cap
  have hlim := h.lim
  have hlcI : (L.length : Int) ≤ c := by omega
  cases A with
  | none =>
    obtain rfl := h.nil rfl
    obtain rfl : L = [] := List.eq_nil_of_length_eq_zero (by omega)
    obtain rfl : n = 0 := by simp at hn; omega
    have HH := Lib.hid h
    clear h
    go_enter Try.func23, Try.ntmps23
    go_wp2_with (go_at_call 25; with_reducible refine (text1_ok p q t g none 0 [] 0 s0 _ HH.out hp hq ht hn).mono ?_; rintro e w1 ⟨rfl, hT1, hK⟩; have hR := HH.out.keepst ht hK; have c0 : w1.cell? ⟨g, 0, none⟩ = some (.slice none 0 0) := (hR.blk.cell 0).trans rfl; have c1 : w1.cell? ⟨g, 1, none⟩ = some (.int .i64 0) := (hR.blk.cell 1).trans rfl; have f0 := hR.blk.frozen 0; have f1 := hR.blk.frozen 1)
    go_ret
    exact ⟨rfl, ⟨none, 0, hR.blk.set_ 0 _, fun h => absurd rfl h, Nat.le_refl _, fun _ => rfl, by omega⟩, hT1.far (by rintro rfl; exact absurd rfl (hR.blk.ne_ hT1 (by decide))) _, one_set hK 0 _⟩
  | some a =>
    by_cases hL : L = []
    · subst hL
      obtain rfl : n = 0 := by simp at hn; omega
      have HH := Lib.hid h
      clear h
      go_enter Try.func23, Try.ntmps23
      go_wp2_with (go_at_call 25; with_reducible refine (text1_ok p q t g _ c [] 0 s0 _ HH.out hp hq ht hn).mono ?_; rintro e w1 ⟨rfl, hT1, hK⟩; have hR := HH.out.keepst ht hK; have c0 : w1.cell? ⟨g, 0, none⟩ = some (.slice (some a) 0 c) := (hR.blk.cell 0).trans rfl; have c1 : w1.cell? ⟨g, 1, none⟩ = some (.int .i64 0) := (hR.blk.cell 1).trans rfl; have f0 := hR.blk.frozen 0; have f1 := hR.blk.frozen 1)
      all_goals go_ret
      all_goals exact ⟨rfl, ⟨_, _, hR.blk.set_ 0 _, fun h => absurd rfl h, Nat.zero_le _, (fun h => by first | (cases h; done) | rfl | omega), by omega⟩, hT1.far (by rintro rfl; exact absurd rfl (hR.blk.ne_ hT1 (by decide))) _, one_set hK 0 _⟩
    · obtain ⟨b, off, h1, _⟩ := h.src hL
      obtain rfl : a = ⟨b, off, none⟩ := by simpa using h1
      have HH := Lib.hid h
      clear h h1
      go_enter Try.func23, Try.ntmps23
      go_wp2_with (go_at_call 25; with_reducible refine (text1_ok p q t g _ c L n s0 _ HH.out hp hq ht hn).mono ?_; rintro e w1 ⟨rfl, hT1, hK⟩; have hR := HH.out.keepst ht hK; have c0 : w1.cell? ⟨g, 0, none⟩ = some (.slice (some ⟨b, off, none⟩) L.length c) := (hR.blk.cell 0).trans rfl; have c1 : w1.cell? ⟨g, 1, none⟩ = some (.int .i64 0) := (hR.blk.cell 1).trans rfl; have f0 := hR.blk.frozen 0; have f1 := hR.blk.frozen 1)
      all_goals go_ret
      · exact ⟨rfl, ⟨_, _, hR.sliced (by omega) (by omega) (fun h => absurd h (by omega))⟩, hT1.far (by rintro rfl; exact absurd rfl (hR.blk.ne_ hT1 (by decide))) _, one_set hK 0 _⟩
      · exact ⟨rfl, ⟨_, _, hR.sliced (by omega) rfl (fun _ => rfl)⟩, hT1.far (by rintro rfl; exact absurd rfl (hR.blk.ne_ hT1 (by decide))) _, one_set hK 0 _⟩
end Go.Proofs.Ytoknfbgbnjhgoaa
