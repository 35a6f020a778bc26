/- The document's reader: Num in any state, End, Read; row. -/
import Derived.Test.YtekcokbpgpeepaaRdI
import Derived.Test.YtekcokbpgpeepaaCnfU
namespace Go.Proofs.Ytekcokbpgpeepaa
set_option linter.unusedVariables false
open Go.RowKit

theorem numd (B g : Nat) (s : RS) (w : World) (h : RdD B w g s.1 s.2) :
    Calls Try.prog 40 #[.pointer (some ⟨g, 0, none⟩), .int .i64 9007199254740991] w fun e w' => e = .returned (.int .i64 (rdN s)) ∧ RdD B w' g (rdS s).1 (rdS s).2 ∧ Keeps (fun i => i = g) w w' := by
  obtain ⟨L, e0⟩ := s
  by_cases he : e0 = 0
  · subst he
    exact numd_c B g L w h
  · exact numd_f B g L e0 w h he
theorem endd_c (B g : Nat) (L : List UInt8) (e0 : Int) (w : World) (h : RdD B w g L e0) {z : Int} (hz : endE L e0 = z) :
    Calls Try.prog 43 #[.pointer (some ⟨g, 0, none⟩)] w fun e w' => e = .returned (.int .i64 z) ∧ w = w' := by
  obtain ⟨A, c, h⟩ := h
  have c0 : w.cell? ⟨g, 0, none⟩ = some (.slice A L.length c) := (h.blk.cell 0).trans rfl
  have c1 : w.cell? ⟨g, 1, none⟩ = some (.int .i64 e0) := (h.blk.cell 1).trans rfl
  have HZ := Lib.hid hz
  clear h hz
  by_cases he : e0 = 0
  · subst he
    by_cases hl : (0 : Int) < (L.length : Nat)
    · have HV : Hid (z = 4) := by show z = 4; rw [← HZ.out]; exact if_pos ⟨rfl, by omega⟩
      go_enter Try.func43, Try.ntmps43
      go_wp2
      go_ret
      exact ⟨by rw [HV.out]; rfl, rfl⟩
    · have HV : Hid (z = 0) := by show z = 0; rw [← HZ.out]; exact if_neg (by omega)
      go_enter Try.func43, Try.ntmps43
      go_wp2
      go_ret
      exact ⟨by rw [HV.out]; rfl, rfl⟩
  · have HV : Hid (z = e0) := by show z = e0; rw [← HZ.out]; exact if_neg (by omega)
    have heb : (e0 == 0) = false := by simp [he]
    clear he
    go_enter Try.func43, Try.ntmps43
    go_wp2
    go_ret
    exact ⟨by rw [HV.out]; rfl, rfl⟩
theorem readd_c (A : Option Addr) (n c : Nat) (L : List UInt8) (w : World) (h : n = L.length ∧ BytesR w A L) (hA : A = none → c = 0) (hl : n ≤ 140737488355328) :
    Calls Try.prog 39 #[.slice A n c] w fun e w' => ∃ g, e = .returned (.pointer (some ⟨g, 0, none⟩)) ∧ RdD g w' g L 0 ∧ w.heap.size ≤ g ∧ Below w.heap.size w w' := by
  have HC := Lib.hid (copy_c A n c L w hl h hA)
  clear h hA
  go_enter Try.func39, Try.ntmps39
  go_wp2_with (go_at_call 17; with_reducible refine HC.out.mono ?_; rintro e w1 ⟨v1, rfl, hO, hB⟩; obtain ⟨A1, c1, rfl, h1, h2, h3, h4, h5⟩ := hO.form)
  go_ret
  refine ⟨_, rfl, ⟨A1, c1, Blk.new w1 _ _, fun hL => ?_, h1, h4⟩, hB.size, hB.alloc hB.size _⟩
  obtain ⟨b, off, k1, k2, k3⟩ := h3 hL
  exact ⟨b, off, k1, k2, by simp; omega, by omega, fun i x hi => (((Below.refl w1.heap.size w1).alloc (Nat.le_refl _) _).cell (p := ⟨b, off + i, none⟩) k2).trans (k3 i x hi)⟩
theorem OwnI.keep {w w' : World} {B : Nat} {v : Value} {L : List Int} (h : OwnI w B v L) (k : ∀ q cs, Blk w q 3 cs → Blk w' q 3 cs) : OwnI w' B v L := own_keep h k
theorem keeps_from {B : Nat} {w w' : World} (h : Below B w w') : Keeps (fun i => B ≤ i) w w' := ⟨h.os, h.tape, h.output, h.size, fun i hi hn => h.block i (by omega)⟩
theorem keeps_low {S : Nat → Prop} {w w1 w' : World} (k : Keeps S w w1) (h : Below w.heap.size w1 w') : Keeps S w w' := k.trans (keeps_from h) fun i hi => .inr hi
theorem row_c (B g : Nat) (s : RS) (n : Nat) (w : World) (h : RdD B w g s.1 s.2) (hB : B ≤ w.heap.size) (hn : n ≤ 8) :
    Calls Try.prog 42 #[.pointer (some ⟨g, 0, none⟩), .int .i64 n] w fun e w' => ∃ v, e = .returned v ∧ OwnI w' w.heap.size v (readsL s n) ∧ RdD B w' g (rdAt s n).1 (rdAt s n).2 ∧ Keeps (fun i => i = g) w w' := by
  obtain ⟨vg, hgb⟩ := h.blk
  have HG := Lib.hid hgb.lt
  have HH := Lib.hid h
  clear h hgb vg
  go_enter Try.func42, Try.ntmps42
  go_wp2_with fail
  go_loopw [5, 6] (fun v y wr => ∃ k : Nat, k ≤ n ∧ y = .int .i64 k ∧ OwnI wr w.heap.size v (readsL s k) ∧ RdD B wr g (rdAt s k).1 (rdAt s k).2 ∧ Keeps (fun i => i = g) w wr) (fun _ y _ => n - (intOf y).toNat)
  case atStart => exact ⟨0, Nat.zero_le _, rfl, OwnI.nil, HH.out, Keeps.refl _ _⟩
  case round =>
    obtain ⟨k, hk, rfl, hO, hR, hK⟩ := hrel
    by_cases hlt : k < n
    · have hk1 : (k : Int) < (n : Int) := by omega
      have HO := Lib.hid hO
      have HR := Lib.hid hR
      have HK := Lib.hid hK
      have HL : Hid ((readsL s k).length + 1 ≤ 10000000000000) := by show _ ≤ _; simp [readsL]; omega
      clear hO hR hK
      go_wp2_with (first
        | (at_builtin; refine wpList_append_made (w0 := w1) (B := w.heap.size) (L := readsL s k) (M := [rdN (rdAt s k)]) rfl (.tmp 12) (.tmp 15) rfl rfl HO1.out (Below.refl _ _) HS1.out rfl rfl rfl HL.out ?_; intro v8 w8 hO8 hB8 hk8; have HR8 := Lib.hid (HR1.out.keep (keeps_from hB8) (fun e => by have := HG.out; omega) (fun i hi e => by omega)); have HK8 := Lib.hid (keeps_low HK1.out hB8); have HO8 := Lib.hid hO8; clear hO8 hB8 hk8)
        | (go_at_call 40; go_loud (with_reducible refine (numd B g (rdAt s k) _ HR.out).mono ?_; rintro e w1 ⟨rfl, hR1, hK1⟩; have HR1 := Lib.hid hR1; have HK1 := Lib.hid (HK.out.trans hK1 fun i hi => .inl hi); have HS1 := Lib.hid (Nat.le_trans HK.out.size hK1.size); obtain ⟨u1, hg1⟩ := HR.out.blk; have HO1 := Lib.hid (HO.out.keep fun q cs hb => hK1.blk hb (hb.ne_ hg1 (by decide))); clear hR1 hK1 hg1 u1)))
      go_roundw
      case rel => exact ⟨k + 1, by omega, rfl, by rw [readsL_succ]; exact HO8.out, HR8.out, HK8.out⟩
      case measure => simp [intOf]; omega
    · obtain rfl : n = k := by omega
      have hk1 : ¬ (n : Int) < (n : Int) := by omega
      go_wp2_with fail
      go_ret
      exact ⟨_, rfl, hO, hR, hK⟩
theorem row_v (B g : Nat) (s : RS) (n : Nat) (w : World) (h : RdD B w g s.1 s.2) (hB : B ≤ w.heap.size) (hn : n ≤ 8) {m : Int} (hm : (n : Int) = m) :
    Calls Try.prog 42 #[.pointer (some ⟨g, 0, none⟩), .int .i64 m] w fun e w' => ∃ v, e = .returned v ∧ OwnI w' w.heap.size v (readsL s n) ∧ RdD B w' g (rdAt s n).1 (rdAt s n).2 ∧ Keeps (fun i => i = g) w w' := by
  subst hm
  exact row_c B g s n w h hB hn
end Go.Proofs.Ytekcokbpgpeepaa
