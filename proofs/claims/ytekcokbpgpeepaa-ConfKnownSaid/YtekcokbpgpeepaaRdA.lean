/- The program's reader: what its closure for numbers answers. -/
import Derived.Test.YtekcokbpgpeepaaPackQ
import Derived.Laws.Bits64b
namespace Go.Proofs.Ytekcokbpgpeepaa
set_option linter.unusedVariables false
open Go.RowKit

/-- A reader at block g. -/
structure Rd (w : World) (g : Nat) (A : Option Addr) (c : Nat) (L : List UInt8) (e : Int) : Prop where
  blk : Blk w g 80 #[.slice A L.length c, .int .i64 e]
  src : L ≠ [] → ∃ b off, A = some ⟨b, off, none⟩ ∧ b < w.heap.size ∧ b ≠ g ∧ ∀ i x, L[i]? = some x → w.cell? ⟨b, off + i, none⟩ = some (.int .u8 (x.toNat : Int))
  cap : L.length ≤ c
  nil : A = none → c = 0
  lim : c ≤ 9223372036854775807
def valK (R : List UInt8) (k : Nat) : Nat := (R.take k).foldl (fun v c => v * 256 + c.toNat) 0
/-- What is wrong; the number; how many bytes. -/
def numE (L : List UInt8) (most : Int) : Int := match L with
  | [] => 3
  | x :: R => if x.toNat = 255 then (if R.length < 8 then 3 else if valK R 8 = 0 ∨ 9007199254740737 < valK R 8 then 4 else if most < 254 + (valK R 8 : Int) then 5 else 0) else if most < (x.toNat : Int) then 5 else 0
def numN (L : List UInt8) : Int := match L with
  | [] => 0
  | x :: R => if x.toNat = 255 then 254 + (valK R 8 : Int) else x.toNat
def numS (L : List UInt8) : Nat := match L with
  | [] => 0
  | x :: R => if x.toNat = 255 then 9 else 1
theorem valK_succ (R : List UInt8) (k : Nat) (x : UInt8) (h : R[k]? = some x) : valK R (k + 1) = valK R k * 256 + x.toNat := by
  unfold valK
  rw [List.take_add_one, h]
  simp
theorem valK_lt (R : List UInt8) : ∀ k, valK R k < 256 ^ k
  | 0 => by simp [valK]
  | k + 1 => by
    have ih := valK_lt R k
    rcases h : R[k]? with _ | x
    · have hk : R.length ≤ k := List.getElem?_eq_none_iff.1 h
      have : valK R (k + 1) = valK R k := by unfold valK; rw [List.take_of_length_le (by omega), List.take_of_length_le hk]
      rw [this, Nat.pow_succ]
      omega
    · rw [valK_succ R k x h, Nat.pow_succ]
      have := UInt8.toNat_lt x
      omega
/-- How the closure ends. -/
def NumQ (L : List UInt8) (most : Int) (q : Nat) (w w' : World) (e : Ending) : Prop :=
  e = .returned (.tuple #[.int .i64 (if numE L most = 0 then (numS L : Int) else 0), .int .i64 (numE L most)]) ∧ (numE L most = 0 → Blk w' q 3 #[.int .i64 (numN L)]) ∧ Keeps (fun i => i = q) w w' ∧ ∃ u : Int, Blk w' q 3 #[.int .i64 u]
theorem keeps_q (w : World) (q : Nat) (u : Value) : Keeps (fun i => i = q) w (w.setCell ⟨q, 0, none⟩ u) := Keeps.setCell (S := fun i => i = q) (Keeps.refl _ _) (.inl rfl) u
theorem or_byte (v c : Nat) (h : c < 256) : v * 256 ||| c = v * 256 + c := by
  have := Nat.shiftLeft_add_eq_or_of_lt (i := 8) (b := c) (by simpa using h) v
  rw [Nat.shiftLeft_eq] at this
  exact this.symm
theorem bits_or_byte (v c : Nat) (h : v * 256 + c < 18446744073709551616) (hc : c < 256) : bits .or .u64 (IntKind.u64.wrap ((v : Int) * 256)) (IntKind.u64.wrap (c : Int)) = ((v * 256 + c : Nat) : Int) := by
  obtain ⟨a, ha⟩ : ∃ a, v * 256 = a := ⟨_, rfl⟩
  have h1 : ((v : Int) * 256) = (a : Int) := by omega
  rw [← or_byte v c hc, ha, IntKind.wrap_u64, IntKind.wrap_u64, h1]
  rw [ha] at h
  rw [show ((a : Int) % 18446744073709551616) = (a : Int) by omega, show ((c : Int) % 18446744073709551616) = (c : Int) by omega]
  exact bits_or_u64_nat a c (by omega) (by omega)
theorem numQ_bad {L : List UInt8} {most : Int} {q : Nat} {w w' : World} {e u : Int} (hb : Blk w' q 3 #[.int .i64 u]) (he : numE L most = e) (h0 : e ≠ 0) (hk : Keeps (fun i => i = q) w w') : NumQ L most q w w' (.returned (.tuple #[.int .i64 0, .int .i64 e])) := by
  refine ⟨?_, fun h => absurd (he.symm.trans h) h0, hk, u, hb⟩
  rw [he, if_neg h0]
theorem numQ_ok {L : List UInt8} {most : Int} {q : Nat} {w w' : World} {s : Nat} {v : Int} (he : numE L most = 0) (hs : numS L = s) (hv : numN L = v) (hb : Blk w' q 3 #[.int .i64 v]) (hk : Keeps (fun i => i = q) w w') : NumQ L most q w w' (.returned (.tuple #[.int .i64 s, .int .i64 0])) := by
  refine ⟨?_, fun _ => by rw [hv]; exact hb, hk, v, hb⟩
  rw [he, if_pos rfl, hs]
theorem numE_short {x : UInt8} {R : List UInt8} {most : Int} (h : x.toNat ≠ 255) : numE (x :: R) most = if most < (x.toNat : Int) then 5 else 0 := by simp only [numE]; rw [if_neg h]
theorem numE_long {x : UInt8} {R : List UInt8} {most : Int} (h : x.toNat = 255) : numE (x :: R) most = if R.length < 8 then 3 else if valK R 8 = 0 ∨ 9007199254740737 < valK R 8 then 4 else if most < 254 + (valK R 8 : Int) then 5 else 0 := by simp only [numE]; rw [if_pos h]
set_option maxHeartbeats 400000 in
theorem num1_empty (p q m g : Nat) (A : Option Addr) (c : Nat) (n0 most : Int) (w : World) (h : Rd w g A c [] 0) (hp : Blk w p 61 #[.pointer (some ⟨g, 0, none⟩)])
    (hq : Blk w q 3 #[.int .i64 n0]) (hm : Blk w m 3 #[.int .i64 most]) :
    Calls Try.prog 57 #[.pointer (some ⟨p, 0, none⟩), .pointer (some ⟨q, 0, none⟩), .pointer (some ⟨m, 0, none⟩)] w fun e w' => NumQ [] most q w w' e := by
  have cp := hp.cell 0
  have cg := h.blk.cell 0
  simp at cp cg
  go_enter Try.func57, Try.ntmps57
  go_wp2_with fail
  go_ret2
  exact ⟨rfl, (fun h => by cases h), Keeps.refl _ _, n0, hq⟩
set_option maxHeartbeats 400000 in
theorem num1_c (p q m g : Nat) (A : Option Addr) (c : Nat) (x : UInt8) (R : List UInt8) (n0 most : Int) (w : World) (h : Rd w g A c (x :: R) 0) (hp : Blk w p 61 #[.pointer (some ⟨g, 0, none⟩)])
    (hq : Blk w q 3 #[.int .i64 n0]) (hm : Blk w m 3 #[.int .i64 most]) (hqm : m ≠ q) :
    Calls Try.prog 57 #[.pointer (some ⟨p, 0, none⟩), .pointer (some ⟨q, 0, none⟩), .pointer (some ⟨m, 0, none⟩)] w fun e w' => NumQ (x :: R) most q w w' e := by
  have cp : w.cell? ⟨p, 0, none⟩ = some (.pointer (some ⟨g, 0, none⟩)) := (hp.cell 0).trans rfl
  have cm : w.cell? ⟨m, 0, none⟩ = some (.int .i64 most) := (hm.cell 0).trans rfl
  have cq : w.cell? ⟨q, 0, none⟩ = some (.int .i64 n0) := (hq.cell 0).trans rfl
  have fq : w.frozen? ⟨q, 0, none⟩ = false := hq.frozen 0
  have hpq : p ≠ q := hp.ne_ hq (by decide)
  have hgq : g ≠ q := h.blk.ne_ hq (by decide)
  obtain ⟨b, off, rfl, hb, hbg, hx⟩ := h.src (by simp)
  have HX := Lib.hid hx
  have HH := Lib.hid h
  have c0 : w.cell? ⟨b, off, none⟩ = some (.int .u8 (x.toNat : Int)) := hx 0 x rfl
  have hbq : b ≠ q := by
    rintro rfl
    have e := hx 0 x rfl
    rw [hq.cell] at e
    rcases off with _ | off
    · simp at e
    · simp at e
  have hlen : (x :: R).length = R.length + 1 := rfl
  have cg : w.cell? ⟨g, 0, none⟩ = some (.slice (some ⟨b, off, none⟩) (R.length + 1) c) := (h.blk.cell 0).trans rfl
  have hlc : R.length + 1 ≤ c := h.cap
  have hlim := h.lim
  obtain ⟨z, hz⟩ : ∃ z, x.toNat = z := ⟨_, rfl⟩
  have hz255 : z ≤ 255 := by have := UInt8.toNat_lt x; omega
  rw [hz] at c0
  have HZ := Lib.hid hz
  clear hx h hlen hz
  by_cases h255 : (z : Int) = 255
  · go_enter Try.func57, Try.ntmps57
    by_cases h9 : (R.length : Int) + 1 < 9
    · go_wp2_with fail
      go_ret2
      exact numQ_bad (hq.set_ 0 _) (by rw [numE_long (by have := HZ.out; omega), if_pos (by omega)]) (by omega) (keeps_q _ _ _)
    · go_wp2_with fail
      have hK := keeps_q w q (.int .i64 255)
      have hQ : Blk (w.setCell ⟨q, 0, none⟩ (.int .i64 255)) q 3 #[.int .i64 255] := hq.set_ 0 _
      have hcell : Hid (∀ i y, R[i]? = some y → (w.setCell ⟨q, 0, none⟩ (.int .i64 255)).cell? ⟨b, off + 1 + i, none⟩ = some (.int .u8 (y.toNat : Int))) := fun i y hy => by
        rw [hK.cell (p := ⟨b, off + 1 + i, none⟩) hb hbq, show off + 1 + i = off + (i + 1) by omega]
        exact HX.out (i + 1) y (by simpa using hy)
      have HM := Lib.hid (hK.blk hm hqm)
      have HK := Lib.hid hK
      have HQ := Lib.hid hQ
      clear hK hQ cq fq cp cm cg c0
      generalize w.setCell ⟨q, 0, none⟩ (.int .i64 255) = w2 at *
      go_loopw [6, 40] (fun v y wr => ∃ k : Nat, k ≤ 8 ∧ y = .int .i64 k ∧ v = .int .u64 (valK R k : Nat) ∧ wr = w2) (fun _ y _ => 8 - (intOf y).toNat)
      case atStart => exact ⟨0, by omega, rfl, rfl, rfl⟩
      case round =>
        obtain ⟨k, hk, rfl, rfl, rfl⟩ := hrel
        by_cases hlt : (k : Int) < 8
        · obtain ⟨y, hy⟩ : ∃ y, R[k]? = some y := ⟨_, List.getElem?_eq_getElem (by omega)⟩
          have c1 := hcell.out k y hy
          have hv : Hid (valK R (k + 1) < 18446744073709551616) := by
            show valK R (k + 1) < 18446744073709551616
            have h1 := valK_lt R (k + 1)
            rcases (by omega : k = 0 ∨ k = 1 ∨ k = 2 ∨ k = 3 ∨ k = 4 ∨ k = 5 ∨ k = 6 ∨ k = 7) with rfl | rfl | rfl | rfl | rfl | rfl | rfl | rfl <;> omega
          have HY := Lib.hid hy
          clear hy
          go_wp2_with fail
          go_roundw
          case rel =>
            refine ⟨k + 1, by omega, rfl, ?_, trivial⟩
            have hv' := hv.out
            rw [valK_succ R k y HY.out] at hv' ⊢
            rw [bits_or_byte _ _ hv' (UInt8.toNat_lt y)]
          case measure => simp [intOf]; omega
        · obtain rfl : 8 = k := by omega
          have c1 : wr.cell? ⟨q, 0, none⟩ = some (.int .i64 255) := (HQ.out.cell 0).trans rfl
          have c2 : wr.cell? ⟨m, 0, none⟩ = some (.int .i64 most) := (HM.out.cell 0).trans rfl
          have f1 : wr.frozen? ⟨q, 0, none⟩ = false := HQ.out.frozen 0
          have hE := numE_long (x := x) (R := R) (most := most) (by have := HZ.out; omega)
          rw [if_neg (by omega)] at hE
          have hN : numN (x :: R) = 254 + (valK R 8 : Int) := by simp only [numN]; rw [if_pos (by have := HZ.out; omega)]
          have hS : numS (x :: R) = 9 := by simp only [numS]; rw [if_pos (by have := HZ.out; omega)]
          have HE := Lib.hid hE
          have HN := Lib.hid hN
          have HS := Lib.hid hS
          clear hE hN hS
          generalize valK R 8 = V at *
          by_cases h0 : (V : Int) = 0
          · go_wp2_with fail
            go_ret2
            exact numQ_bad HQ.out (by rw [HE.out, if_pos (by omega)]) (by omega) HK.out
          · by_cases h1 : 9007199254740737 < (V : Int)
            · go_wp2_with fail
              go_ret2
              exact numQ_bad HQ.out (by rw [HE.out, if_pos (by omega)]) (by omega) HK.out
            · by_cases h2 : most < 254 + (V : Int)
              · go_wp2_with fail
                go_ret2
                exact numQ_bad (HQ.out.set_ 0 _) (by rw [HE.out, if_neg (by omega), if_pos h2]) (by omega) (HK.out.setCell (.inl rfl) _)
              · go_wp2_with fail
                go_ret2
                exact numQ_ok (s := 9) (by rw [HE.out, if_neg (by omega), if_neg (by omega)]) HS.out HN.out (HQ.out.set_ 0 _) (HK.out.setCell (.inl rfl) _)
  · by_cases hmo : most < (z : Int)
    · go_enter Try.func57, Try.ntmps57
      go_wp2_with fail
      go_ret2
      exact numQ_bad (hq.set_ 0 _) (by rw [numE_short (by have := HZ.out; omega), if_pos (by have := HZ.out; omega)]) (by omega) (keeps_q _ _ _)
    · go_enter Try.func57, Try.ntmps57
      go_wp2_with fail
      go_ret2
      exact numQ_ok (s := 1) (by rw [numE_short (by have := HZ.out; omega), if_neg (by have := HZ.out; omega)]) (by simp only [numS]; rw [if_neg (by have := HZ.out; omega)]) (by simp only [numN]; rw [if_neg (by have := HZ.out; omega), HZ.out]) (hq.set_ 0 _) (keeps_q _ _ _)
end Go.Proofs.Ytekcokbpgpeepaa
