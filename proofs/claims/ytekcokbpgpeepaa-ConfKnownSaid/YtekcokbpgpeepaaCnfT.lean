/- Layer 5: the chapter's configuration; Parse, Bytes by values. -/
import Derived.Test.YtekcokbpgpeepaaCnfS
namespace Go.Proofs.Ytekcokbpgpeepaa
set_option linter.unusedVariables false
open Go.RowKit

def chC (b : Int) : Cfg := ⟨[⟨10, 4, [⟨20, 12, b, 0, 0, 0, 0, 0⟩]⟩], []⟩
theorem cfa_ch (b : Int) (w : World) (o : Obj) (t t' : TypeId) : CfA (((w.alloc o).alloc (.cells #[.int .i64 20, .int .i64 12, .int .i64 b, .int .i64 0, .int .i64 0, .int .i64 0, .int .i64 0, .int .i64 0] t)).alloc (.cells #[.int .i64 10, .int .i64 4, .slice (some ⟨w.heap.size + 1, 0, none⟩) 1 1] t')) (some ⟨w.heap.size + 1 + 1, 0, none⟩) 1 none 0 (chC b) := by
  have e1 : (w.alloc o).heap.size = w.heap.size + 1 := by simp
  have e2 : ((w.alloc o).alloc (.cells #[.int .i64 20, .int .i64 12, .int .i64 b, .int .i64 0, .int .i64 0, .int .i64 0, .int .i64 0, .int .i64 0] t)).heap.size = w.heap.size + 1 + 1 := by simp
  have hq := Blk.new ((w.alloc o).alloc (.cells #[.int .i64 20, .int .i64 12, .int .i64 b, .int .i64 0, .int .i64 0, .int .i64 0, .int .i64 0, .int .i64 0] t)) t' #[.int .i64 10, .int .i64 4, .slice (some ⟨w.heap.size + 1, 0, none⟩) 1 1]
  have hp := (Blk.new (w.alloc o) t #[.int .i64 20, .int .i64 12, .int .i64 b, .int .i64 0, .int .i64 0, .int .i64 0, .int .i64 0, .int .i64 0]).alloc (.cells #[.int .i64 10, .int .i64 4, .slice (some ⟨w.heap.size + 1, 0, none⟩) 1 1] t')
  rw [e2] at hq
  rw [e1] at hp
  generalize ((w.alloc o).alloc (.cells #[.int .i64 20, .int .i64 12, .int .i64 b, .int .i64 0, .int .i64 0, .int .i64 0, .int .i64 0, .int .i64 0] t)).alloc (.cells #[.int .i64 10, .int .i64 4, .slice (some ⟨w.heap.size + 1, 0, none⟩) 1 1] t') = W at *
  refine ⟨fun _ => ⟨_, 0, rfl, hq.lt, fun i p hi => ?_⟩, PtsAt.nil, Nat.le_refl _, Nat.le_refl _, (fun e => by cases e), fun _ => rfl, Nat.le_of_ble_eq_true rfl, Nat.le_of_ble_eq_true rfl⟩
  match i, hi with
  | 0, hi =>
    obtain rfl : (⟨10, 4, [⟨20, 12, b, 0, 0, 0, 0, 0⟩]⟩ : CP) = p := by simpa [chC] using hi
    refine ⟨(hq.cell 0).trans rfl, (hq.cell 1).trans rfl, _, (hq.cell 2).trans rfl, ⟨⟨_, 1, rfl, Nat.le_refl _, (fun e => by cases e), fun _ => ⟨_, 0, rfl, hp.lt, fun i t hi => ?_⟩⟩, Nat.le_of_ble_eq_true rfl⟩⟩
    match i, hi with
    | 0, hi =>
      obtain rfl : (⟨20, 12, b, 0, 0, 0, 0, 0⟩ : TV) = t := by simpa using hi
      exact ⟨(hp.cell 0).trans rfl, (hp.cell 1).trans rfl, (hp.cell 2).trans rfl, (hp.cell 3).trans rfl, (hp.cell 4).trans rfl, (hp.cell 5).trans rfl, (hp.cell 6).trans rfl, (hp.cell 7).trans rfl⟩
theorem readC_len (L : List UInt8) : (readC L).2.ps.length ≤ 4 ∧ (readC L).2.qs.length ≤ 8 := by
  have no : noCfg.ps.length ≤ 4 ∧ noCfg.qs.length ≤ 8 := by decide
  unfold readC
  split
  · exact no
  · next h4 =>
    split
    · exact no
    · split
      · exact no
      · next h8 =>
        unfold fin
        split
        · split
          · show (partsOf _ _).length ≤ 4 ∧ (portsOf _ _).length ≤ 8
            rw [partsOf_len, portsOf_len]
            omega
          · exact no
        · exact no
theorem parse_x (A : Option Addr) (n c : Nat) (L : List UInt8) (w : World) (h : n = L.length ∧ BytesR w A L) (hA : A = none → c = 0) (hc : n ≤ c) (hl : c ≤ 9223372036854775807) {z : Int} {cf : Cfg} (hr : readC L = (z, cf)) :
    Calls Try.prog 18 #[.slice A n c] w fun e w' => ∃ A1 n1 A2 n2, e = .returned (.tuple #[.agg #[.slice A1 cf.ps.length n1, .slice A2 cf.qs.length n2], .int .i64 z]) ∧ CfA w' A1 n1 A2 n2 cf ∧ Below w.heap.size w w' := by
  refine (parse_c A n c L w h hA hc hl).mono fun e w' ⟨hq, hB⟩ => ?_
  obtain ⟨v1, v2, h1, h2, h3⟩ := hq.ex
  have hlen := readC_len L
  rw [hr] at h1 h2 h3 hlen
  obtain ⟨A1, n1, rfl, k1, k2, k3⟩ := h2.form
  obtain ⟨A2, n2, rfl, m1, m2, m3⟩ := h3.form
  exact ⟨A1, n1, A2, n2, h1, ⟨k3, m3, k1, m1, k2, m2, Nat.le_trans hlen.1 (by decide), Nat.le_trans hlen.2 (by decide)⟩, hB⟩
theorem bytes_x (A A2 : Option Addr) (n1 n2 : Nat) (c : Cfg) (w : World) (h : CfA w A n1 A2 n2 c) (hc : checkB c = true) :
    Calls Try.prog 10 #[.agg #[.slice A c.ps.length n1, .slice A2 c.qs.length n2]] w fun e w' => ∃ A' c', e = .returned (.tuple #[.slice A' (bytesL c).length c', .int .i64 0]) ∧ BytesR w' A' (bytesL c) ∧ (bytesL c).length ≤ c' ∧ (A' = none → c' = 0) ∧ c' ≤ 9223372036854775807 ∧ Below w.heap.size w w' := by
  refine (bytes_c A A2 n1 n2 c w h).mono fun e w' ⟨hq, hB⟩ => ?_
  obtain ⟨v, h1, h2⟩ := hq.ok hc
  obtain ⟨A', c', rfl, k1, k2, k3, k4, _⟩ := h2.form
  exact ⟨A', c', h1, k3, k1, k2, k4, hB⟩
theorem bytes_n (A A2 : Option Addr) (n1 n2 : Nat) (c : Cfg) (w : World) (h : CfA w A n1 A2 n2 c) (hc : checkB c = false) :
    Calls Try.prog 10 #[.agg #[.slice A c.ps.length n1, .slice A2 c.qs.length n2]] w fun e w' => e = .returned (.tuple #[.slice none 0 0, .int .i64 50]) ∧ Below w.heap.size w w' :=
  (bytes_c A A2 n1 n2 c w h).mono fun e w' ⟨hq, hB⟩ => ⟨hq.no hc, hB⟩
theorem chapter_c (b : Int) (w : World) : Calls Try.prog 22 #[.int .i64 b] w fun e w' => ∃ A n1 A2 n2, e = .returned (.agg #[.slice A (chC b).ps.length n1, .slice A2 (chC b).qs.length n2]) ∧ CfA w' A n1 A2 n2 (chC b) ∧ Below w.heap.size w w' := by
  go_enter Try.func22, Try.ntmps22
  go_wp2
  have hb := ((Blk.new w 25 #[.slice (some ⟨w.heap.size + 1 + 1, 0, none⟩) 1 1, .slice none 0 0]).alloc (.cells #[.int .i64 20, .int .i64 12, .int .i64 b, .int .i64 0, .int .i64 0, .int .i64 0, .int .i64 0, .int .i64 0] 46)).alloc (.cells #[.int .i64 10, .int .i64 4, .slice (some ⟨w.heap.size + 1, 0, none⟩) 1 1] 41)
  have cc0 := hb.cell 0
  have cc1 := hb.cell 1
  refine bodyPost_ret (v := .agg #[.slice (some ⟨w.heap.size + 1 + 1, 0, none⟩) 1 1, .slice none 0 0]) (by simp [results, Try.results22, go_sem, cc0, cc1] <;> rfl) rfl ⟨_, 1, none, 0, rfl, cfa_ch b w _ _ _, (((Below.refl _ _).alloc (Nat.le_refl _) _).alloc (by simp) _).alloc (by simp; omega) _⟩
def wantL : List UInt8 := [1, 10, 4, 1, 20, 12, 3, 0, 0, 0, 0, 0, 0]
theorem want_r : readC wantL = (0, chC 3) := by kernel_rfl
theorem want_12 : readC (wantL.take 12) = (3, noCfg) := by kernel_rfl
theorem want_0 : readC (wantL ++ [0]) = (4, noCfg) := by kernel_rfl
theorem want_5 : readC [5] = (50, noCfg) := by kernel_rfl
theorem want_b : bytesL (chC 3) = wantL := by kernel_rfl
theorem chk_3 : checkB (chC 3) = true := by kernel_rfl
theorem chk_13 : checkB (chC 13) = false := by kernel_rfl
theorem chk_no : checkB noCfg = false := by kernel_rfl
end Go.Proofs.Ytekcokbpgpeepaa
