/- The program's reader: step and Num. -/
import Derived.Test.YtekcokbpgpeepaaRdA
namespace Go.Proofs.Ytekcokbpgpeepaa
set_option linter.unusedVariables false
open Go.RowKit

section
variable {w w' : World} {g q : Nat} {A : Option Addr} {c : Nat} {L : List UInt8} {e n0 : Int}
theorem Rd.ne (h : Rd w g A c L e) (hq : Blk w q 3 #[.int .i64 n0]) {b off : Nat} (hL : L ≠ []) (hA : A = some ⟨b, off, none⟩) : b ≠ q := by
  obtain ⟨b', off', hA', hb, hbg, hx⟩ := h.src hL
  rw [hA] at hA'
  simp only [Option.some.injEq, Addr.mk.injEq, and_true] at hA'
  obtain ⟨rfl, rfl⟩ := hA'
  rintro rfl
  obtain ⟨x, R, rfl⟩ : ∃ x R, L = x :: R := by cases L with | nil => exact absurd rfl hL | cons x R => exact ⟨x, R, rfl⟩
  have e := hx 0 x rfl
  rw [hq.cell] at e
  rcases off with _ | off
  · simp at e
  · simp at e
theorem Rd.keepsq (h : Rd w g A c L e) (hq : Blk w q 3 #[.int .i64 n0]) (k : Keeps (fun i => i = q) w w') : Rd w' g A c L e := by
  refine ⟨k.blk h.blk (h.blk.ne_ hq (by decide)), fun hL => ?_, h.cap, h.nil, h.lim⟩
  obtain ⟨b, off, hA, hb, hbg, hx⟩ := h.src hL
  exact ⟨b, off, hA, Nat.lt_of_lt_of_le hb k.size, hbg, fun i x hi => (k.cell (p := ⟨b, off + i, none⟩) hb (h.ne hq hL hA)).trans (hx i x hi)⟩
theorem Rd.below (h : Rd w g A c L e) (k : Below w.heap.size w w') : Rd w' g A c L e := by
  refine ⟨h.blk.below k h.blk.lt, fun hL => ?_, h.cap, h.nil, h.lim⟩
  obtain ⟨b, off, hA, hb, hbg, hx⟩ := h.src hL
  exact ⟨b, off, hA, Nat.lt_of_lt_of_le hb k.size, hbg, fun i x hi => (k.cell (p := ⟨b, off + i, none⟩) hb).trans (hx i x hi)⟩
end
theorem numE_pos {L : List UInt8} {most : Int} (h : numE L most = 0) : L ≠ [] ∧ 1 ≤ numS L ∧ numS L ≤ L.length ∧ numS L ≤ 9 ∧ 0 ≤ numN L ∧ numN L ≤ 9007199254740991 ∧ numN L ≤ most := by
  cases L with
  | nil => cases h
  | cons x R =>
    have hx := UInt8.toNat_lt x
    simp only [numE] at h
    simp only [numS, numN]
    split at h
    · rename_i h255
      rw [if_pos h255, if_pos h255]
      split at h
      · omega
      · split at h
        · omega
        · split at h
          · omega
          · exact ⟨by simp, by omega, by simp; omega, by omega, by omega, by omega, by omega⟩
    · rename_i h255
      rw [if_neg h255, if_neg h255]
      split at h
      · omega
      · exact ⟨by simp, by omega, by simp, by omega, by omega, by omega, by omega⟩
theorem num1_any (p q m g : Nat) (A : Option Addr) (c : Nat) (L : List UInt8) (n0 most : Int) (w : World) (h : Rd w g A c L 0) (hp : Blk w p 61 #[.pointer (some ⟨g, 0, none⟩)])
    (hq : Blk w q 3 #[.int .i64 n0]) (hm : Blk w m 3 #[.int .i64 most]) (hqm : m ≠ q) :
    Calls Try.prog 57 #[.pointer (some ⟨p, 0, none⟩), .pointer (some ⟨q, 0, none⟩), .pointer (some ⟨m, 0, none⟩)] w fun e w' => NumQ L most q w w' e := by
  cases L with
  | nil => exact num1_empty p q m g A c n0 most w h hp hq hm
  | cons x R => exact num1_c p q m g A c x R n0 most w h hp hq hm hqm
theorem num1_ok (p q m g : Nat) (A : Option Addr) (c : Nat) (L : List UInt8) (n0 most : Int) (w : World) (h : Rd w g A c L 0) (hp : Blk w p 61 #[.pointer (some ⟨g, 0, none⟩)])
    (hq : Blk w q 3 #[.int .i64 n0]) (hm : Blk w m 3 #[.int .i64 most]) (hqm : m ≠ q) (hE : numE L most = 0) {s : Nat} (hs : numS L = s) :
    Calls Try.prog 57 #[.pointer (some ⟨p, 0, none⟩), .pointer (some ⟨q, 0, none⟩), .pointer (some ⟨m, 0, none⟩)] w fun e w' => e = .returned (.tuple #[.int .i64 s, .int .i64 0]) ∧ Blk w' q 3 #[.int .i64 (numN L)] ∧ Keeps (fun i => i = q) w w' :=
  (num1_any p q m g A c L n0 most w h hp hq hm hqm).mono fun e w' ⟨h1, h2, h3, _⟩ => ⟨by rw [h1, hE, if_pos rfl, hs], h2 hE, h3⟩
theorem num1_bad (p q m g : Nat) (A : Option Addr) (c : Nat) (L : List UInt8) (n0 most : Int) (w : World) (h : Rd w g A c L 0) (hp : Blk w p 61 #[.pointer (some ⟨g, 0, none⟩)])
    (hq : Blk w q 3 #[.int .i64 n0]) (hm : Blk w m 3 #[.int .i64 most]) (hqm : m ≠ q) {E : Int} (hE : numE L most = E) (h0 : E ≠ 0) :
    Calls Try.prog 57 #[.pointer (some ⟨p, 0, none⟩), .pointer (some ⟨q, 0, none⟩), .pointer (some ⟨m, 0, none⟩)] w fun e w' => e = .returned (.tuple #[.int .i64 0, .int .i64 E]) ∧ (∃ u : Int, Blk w' q 3 #[.int .i64 u]) ∧ Keeps (fun i => i = q) w w' :=
  (num1_any p q m g A c L n0 most w h hp hq hm hqm).mono fun e w' ⟨h1, h2, h3, h4⟩ => ⟨by rw [h1, hE, if_neg h0], h4, h3⟩
theorem Rd.sliced {w : World} {g b off c s o' c' : Nat} {L : List UInt8} (h : Rd w g (some ⟨b, off, none⟩) c L 0) (hs : s ≤ L.length) (hc : c' = c - s) (ho : s < c → o' = off + s) :
    Rd (w.setCell ⟨g, 0, none⟩ (.slice (some ⟨b, o', none⟩) (L.length - s) c')) g (some ⟨b, o', none⟩) c' (L.drop s) 0 := by
  have hlc := h.cap
  have hlim := h.lim
  refine ⟨?_, fun hd => ?_, by simp; omega, (fun h => by cases h), by omega⟩
  · have := h.blk.set_ 0 (.slice (some ⟨b, o', none⟩) (L.length - s) c')
    rw [List.length_drop]; exact this
  · have hlt : s < L.length := by
      rcases Nat.lt_or_ge s L.length with h | h
      · exact h
      · exact absurd (List.drop_eq_nil_of_le h) hd
    obtain ⟨b', off', hA, hb, hbg, hx⟩ := h.src (by intro e; subst e; simp at hlt)
    simp only [Option.some.injEq, Addr.mk.injEq, and_true] at hA
    obtain ⟨rfl, rfl⟩ := hA
    refine ⟨b, o', rfl, by simpa using hb, hbg, fun i x hi => ?_⟩
    rw [List.getElem?_drop] at hi
    have hk : Keeps (fun i => i = g) w (w.setCell ⟨g, 0, none⟩ (.slice (some ⟨b, o', none⟩) (L.length - s) c')) := keeps_q _ _ _
    rw [hk.cell (p := ⟨b, o' + i, none⟩) hb hbg, ho (by omega), show off + s + i = off + (s + i) by omega]
    exact hx _ x hi
def gq (g q : Nat) (i : Nat) : Prop := i = g ∨ i = q
theorem two_sets {w w1 : World} {g q : Nat} (k : Keeps (fun i => i = q) w w1) (i j : Nat) (u v : Value) : Keeps (gq g q) w ((w1.setCell ⟨g, i, none⟩ u).setCell ⟨g, j, none⟩ v) :=
  ((k.mono fun i hi => .inr hi).setCell (.inl (.inl rfl)) u).setCell (.inl (.inl rfl)) v
theorem one_set {w w1 : World} {g q : Nat} (k : Keeps (fun i => i = q) w w1) (i : Nat) (u : Value) : Keeps (gq g q) w (w1.setCell ⟨g, i, none⟩ u) :=
  (k.mono fun i hi => .inr hi).setCell (.inl (.inl rfl)) u
set_option maxHeartbeats 400000 in
theorem step_bad (p q m g : Nat) (A : Option Addr) (c : Nat) (L : List UInt8) (n0 most : Int) (w : World) (h : Rd w g A c L 0) (hp : Blk w p 61 #[.pointer (some ⟨g, 0, none⟩)])
    (hq : Blk w q 3 #[.int .i64 n0]) (hm : Blk w m 3 #[.int .i64 most]) (hqm : m ≠ q) {E : Int} (hE : numE L most = E) (h0 : E ≠ 0) :
    Calls Try.prog 56 #[.pointer (some ⟨g, 0, none⟩), .func (.func 57) #[] #[.pointer (some ⟨p, 0, none⟩), .pointer (some ⟨q, 0, none⟩), .pointer (some ⟨m, 0, none⟩)]] w
      fun e w' => e = .returned (.bool false) ∧ Rd w' g none 0 [] E ∧ (∃ u : Int, Blk w' q 3 #[.int .i64 u]) ∧ Keeps (gq g q) w w' := by
  have hc : w.cell? ⟨g, 1, none⟩ = some (.int .i64 0) := (h.blk.cell 1).trans rfl
  have HH := Lib.hid h
  have HE := Lib.hid hE
  have hne : (E != 0) = true := by simp [h0]
  clear h hE
  go_enter Try.func56, Try.ntmps56
  go_wp2_with (go_at_call 57; with_reducible refine (num1_bad p q m g A c L n0 most _ HH.out hp hq hm hqm HE.out h0).mono ?_; rintro e w1 ⟨rfl, ⟨u1, hq1⟩, hK⟩; have hR := HH.out.keepsq hq hK; have c0 : w1.cell? ⟨g, 0, none⟩ = some (.slice A L.length c) := (hR.blk.cell 0).trans rfl; have c1 : w1.cell? ⟨g, 1, none⟩ = some (.int .i64 0) := (hR.blk.cell 1).trans rfl; have f0 := hR.blk.frozen 0; have f1 := hR.blk.frozen 1)
  go_ret
  exact ⟨rfl, ⟨(hR.blk.set_ 0 _).set_ 1 _, fun h => absurd rfl h, Nat.le_refl _, fun _ => rfl, by omega⟩, ⟨u1, (hq1.far (by rintro rfl; exact absurd rfl (hR.blk.ne_ hq1 (by decide))) _).far (by rintro rfl; exact absurd rfl (hR.blk.ne_ hq1 (by decide))) _⟩, two_sets hK 0 1 _ _⟩
set_option maxHeartbeats 400000 in
theorem step_ok (p q m g : Nat) (b off : Nat) (c : Nat) (L : List UInt8) (n0 most : Int) (w : World) (h : Rd w g (some ⟨b, off, none⟩) c L 0) (hp : Blk w p 61 #[.pointer (some ⟨g, 0, none⟩)])
    (hq : Blk w q 3 #[.int .i64 n0]) (hm : Blk w m 3 #[.int .i64 most]) (hqm : m ≠ q) (hE : numE L most = 0) {s : Nat} (hs : numS L = s) :
    Calls Try.prog 56 #[.pointer (some ⟨g, 0, none⟩), .func (.func 57) #[] #[.pointer (some ⟨p, 0, none⟩), .pointer (some ⟨q, 0, none⟩), .pointer (some ⟨m, 0, none⟩)]] w
      fun e w' => e = .returned (.bool true) ∧ (∃ o' c, Rd w' g (some ⟨b, o', none⟩) c (L.drop s) 0) ∧ Blk w' q 3 #[.int .i64 (numN L)] ∧ Keeps (gq g q) w w' := by
  have hc : w.cell? ⟨g, 1, none⟩ = some (.int .i64 0) := (h.blk.cell 1).trans rfl
  have hpos := numE_pos hE
  rw [hs] at hpos
  obtain ⟨hL, hs1, hsl, hs9, -, -, -⟩ := hpos
  have hlc := h.cap
  have hlim := h.lim
  have HH := Lib.hid h
  have HE := Lib.hid hE
  have HS := Lib.hid hs
  clear h hE hs
  have hslI : (s : Int) ≤ (L.length : Nat) := by omega
  have hlcI : (L.length : Int) ≤ c := by omega
  go_enter Try.func56, Try.ntmps56
  go_wp2_with (go_at_call 57; with_reducible refine (num1_ok p q m g _ c L n0 most _ HH.out hp hq hm hqm HE.out HS.out).mono ?_; rintro e w1 ⟨rfl, hQ1, hK⟩; have hR := HH.out.keepsq hq hK; have c0 : w1.cell? ⟨g, 0, none⟩ = some (.slice (some ⟨b, off, none⟩) L.length c) := (hR.blk.cell 0).trans rfl; have c1 : w1.cell? ⟨g, 1, none⟩ = some (.int .i64 0) := (hR.blk.cell 1).trans rfl; have f0 := hR.blk.frozen 0; have f1 := hR.blk.frozen 1)
  all_goals go_ret
  · exact ⟨rfl, ⟨_, _, hR.sliced (by omega) (by omega) (fun h => absurd h (by omega))⟩, hQ1.far (by rintro rfl; exact absurd rfl (hR.blk.ne_ hQ1 (by decide))) _, one_set hK 0 _⟩
  · exact ⟨rfl, ⟨_, _, hR.sliced (by omega) rfl (fun _ => rfl)⟩, hQ1.far (by rintro rfl; exact absurd rfl (hR.blk.ne_ hQ1 (by decide))) _, one_set hK 0 _⟩
end Go.Proofs.Ytekcokbpgpeepaa
