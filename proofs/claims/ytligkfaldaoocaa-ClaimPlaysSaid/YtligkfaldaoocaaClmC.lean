/- The program's claims: Hold, Drop, Give, Ask. -/
import Derived.Test.YtligkfaldaoocaaClmB
namespace Go.Proofs.Ytligkfaldaoocaa
set_option linter.unusedVariables false
open Go.RowKit

instance (p r : Int) : Decidable (okPR p r) := by unfold okPR; infer_instance
def kOf (r : Int) : Nat := r.toNat - 1
def dropC (S : CS) (p : Int) : CS := match inE S p with
  | none => S
  | some k => ⟨upd S.l k (others (S.l k) p), upd S.h k (S.h k && !isFirst (S.l k) p)⟩
def holdE (S : CS) (p r : Int) : Int := if ¬ okPR p r then 9 else if isFirst (S.l (kOf r)) p = false then 250 else if S.h (kOf r) = true then 131 else 0
def holdC (S : CS) (p r : Int) : CS := if holdE S p r = 0 then ⟨S.l, upd S.h (kOf r) true⟩ else S
def giveE (S : CS) (p r : Int) : Int := if ¬ okPR p r then 9 else if (S.h (kOf r) && isFirst (S.l (kOf r)) p) = false then 132 else 0
def giveC (S : CS) (p r : Int) : CS := if giveE S p r = 0 then dropC S p else S
def askE (S : CS) (p r : Int) : Int := if ¬ okPR p r then 9 else if (inE S p).isSome = true ∧ inE S p ≠ some (kOf r) then 250 else if (S.h (kOf r) && isFirst (S.l (kOf r)) p) = true then 131 else 0
def askC (S : CS) (p r : Int) : CS := if askE S p r = 0 ∧ inE S p = none then ⟨upd S.l (kOf r) (S.l (kOf r) ++ [p]), S.h⟩ else S
def askB (S : CS) (p r : Int) : Bool := if askE S p r = 0 then isFirst ((askC S p r).l (kOf r)) p else false
section
variable {B g : Nat} {V : Nat → Value} {S : CS} {w0 w : World}
/-- A line's cells. -/
theorem ClA.line (h : ClA B w g V S) {p r : Int} (hok : okPR p r) : kOf r < 4 ∧ ∃ A c, V (kOf r) = .slice A (S.l (kOf r)).length c ∧ w.cell? ⟨g, 1 + kOf r * 2, none⟩ = some (.slice A (S.l (kOf r)).length c) ∧ IntsR w A (S.l (kOf r)) ∧
    w.cell? ⟨g, 1 + kOf r * 2 + 1, none⟩ = some (.bool (S.h (kOf r))) := by
  obtain ⟨h1, h2, h3, h4⟩ := hok
  have hk : kOf r < 4 := by unfold kOf; omega
  obtain ⟨A, c, hv, k1, k2, k3, k4, k5⟩ := (h.own _ hk).form
  have cw := h.who hk
  rw [hv] at cw
  exact ⟨hk, A, c, hv, cw, k3, h.hld hk⟩
end
theorem hold_c (B g : Nat) (V : Nat → Value) (S : CS) (p r : Int) (w : World) (h : ClA B w g V S) :
    Calls Try.prog 12 #[.pointer (some ⟨g, 0, none⟩), .int .i64 p, .int .i64 r] w fun e w' => e = .returned (.int .i64 (holdE S p r)) ∧ ClA B w' g V (holdC S p r) ∧ Turn g V V w w' := by
  by_cases hok : okPR p r
  · obtain ⟨hk, A, c, hv, cw, hR, ch⟩ := h.line hok
    have HA := Lib.hid (asked_ok g p r w h.made hok)
    have HF := Lib.hid (first_c g (1 + kOf r * 2) c A (S.l (kOf r)) p w cw hR)
    have fr := h.blk.frozen (1 + kOf r * 2 + 1)
    have HP := Lib.hid fun hx => h.put_held hk true hx
    have HH := Lib.hid h
    obtain ⟨f, hf⟩ : ∃ f, isFirst (S.l (kOf r)) p = f := ⟨_, rfl⟩
    rw [hf] at HF
    have HE : Hid (holdE S p r = if f = false then 250 else if S.h (kOf r) = true then 131 else 0) := by show holdE S p r = _; unfold holdE; rw [if_neg (by simpa using hok), hf]
    have HN : Hid (f = true → S.l (kOf r) ≠ []) := fun hf' e => by rw [e] at hf; rw [← hf] at hf'; simp [isFirst] at hf'
    have HC : Hid (holdC S p r = if holdE S p r = 0 then ⟨S.l, upd S.h (kOf r) true⟩ else S) := (show holdC S p r = _ from rfl)
    obtain ⟨o, ho⟩ : ∃ o, 1 + (r.toNat - 1) * 2 = o := ⟨_, rfl⟩
    have ho' : 1 + kOf r * 2 = o := ho
    rw [ho] at HA
    rw [ho'] at HF HP fr ch cw
    clear h hok hk hR hf ho ho' hv cw
    cases f with
    | false =>
      go_enter Try.func12, Try.ntmps12
      go_wp2_with (first
        | (go_at_call 24; refine HA.out.mono ?_; rintro e w1 ⟨rfl, rfl⟩)
        | (go_at_call 25; refine HF.out.mono ?_; rintro e w1 ⟨rfl, rfl⟩))
      go_ret
      have he : holdE S p r = 250 := HE.out.trans (by simp)
      refine ⟨by rw [he]; rfl, ?_, Turn.refl _ _ _⟩
      rw [HC.out, if_neg (by rw [he]; decide)]
      exact HH.out
    | true =>
      cases hh : S.h (kOf r) with
      | true =>
        have HHH := Lib.hid hh
        rw [hh] at ch
        clear hh
        go_enter Try.func12, Try.ntmps12
        go_wp2_with (first
          | (go_at_call 24; refine HA.out.mono ?_; rintro e w1 ⟨rfl, rfl⟩)
          | (go_at_call 25; refine HF.out.mono ?_; rintro e w1 ⟨rfl, rfl⟩))
        go_ret
        have he : holdE S p r = 131 := HE.out.trans (by rw [HHH.out]; rfl)
        refine ⟨by rw [he]; rfl, ?_, Turn.refl _ _ _⟩
        rw [HC.out, if_neg (by rw [he]; decide)]
        exact HH.out
      | false =>
        have HHH := Lib.hid hh
        rw [hh] at ch
        clear hh
        go_enter Try.func12, Try.ntmps12
        go_wp2_with (first
          | (go_at_call 24; refine HA.out.mono ?_; rintro e w1 ⟨rfl, rfl⟩)
          | (go_at_call 25; refine HF.out.mono ?_; rintro e w1 ⟨rfl, rfl⟩))
        go_ret
        have he : holdE S p r = 0 := HE.out.trans (by rw [HHH.out]; rfl)
        have hp := HP.out (fun _ => HN.out (by simp))
        refine ⟨by rw [he]; rfl, ?_, hp.2⟩
        rw [HC.out, if_pos he]
        exact hp.1
  · have HA := Lib.hid (asked_bad g p r w h.made hok)
    have he : holdE S p r = 9 := if_pos hok
    rw [he, show holdC S p r = S by unfold holdC; rw [if_neg (by rw [he]; decide)]]
    have HH := Lib.hid h
    clear h he hok
    go_enter Try.func12, Try.ntmps12
    go_wp2_with (go_at_call 24; refine HA.out.mono ?_; rintro e w1 ⟨rfl, rfl⟩)
    go_ret
    exact ⟨rfl, HH.out, Turn.refl _ _ _⟩
theorem others_head {L : List Int} {p : Int} (hL : L ≠ []) (hf : isFirst L p = false) : others L p ≠ [] := by
  cases L with
  | nil => exact absurd rfl hL
  | cons x L =>
    have hx : x ≠ p := by simpa [isFirst] using hf
    unfold others
    rw [List.filter_cons_of_pos (by simpa using hx)]
    simp
set_option maxHeartbeats 400000 in
theorem drop_c (B g : Nat) (V : Nat → Value) (S : CS) (p : Int) (w : World) (h : ClA B w g V S) :
    Calls Try.prog 16 #[.pointer (some ⟨g, 0, none⟩), .int .i64 p] w fun e w' => e = .returned (inV (inE S p)) ∧ ∃ V', ClA B w' g V' (dropC S p) ∧ Turn g V V' w w' := by
  have hB0 : Below w.heap.size w (w.alloc (.cells #[.int .i64 p] 3)) := (Below.refl _ _).alloc (Nat.le_refl _) _
  have h0 := h.below hB0
  have hq := Blk.new w 3 #[.int .i64 p]
  have cq : (w.alloc (.cells #[.int .i64 p] 3)).cell? ⟨w.heap.size, 0, none⟩ = some (.int .i64 p) := (hq.cell 0).trans rfl
  have HI := Lib.hid (in_c B g V S p _ h0)
  have hmf : ∀ (fn : Fn) (first cap : Array Value) (w : World), (Instr.makeFunc fn first cap).run Try.prog w = .ok (.func fn first cap) w := fun _ _ _ _ => rfl
  cases hi : inE S p with
  | none =>
    rw [hi] at HI
    have HR := Lib.hid h0
    rw [show dropC S p = S by unfold dropC; rw [hi]]
    clear h h0 hq hi
    go_enter Try.func16, Try.ntmps16
    go_wp2_with (go_at_call 23; refine HI.out.mono ?_; unfold inV; rintro e w1 ⟨rfl, rfl⟩)
    go_ret2
    exact ⟨rfl, V, HR.out, Turn.below hB0⟩
  | some k =>
    obtain ⟨hk, hmem⟩ := inE_some hi
    rw [hi] at HI
    obtain ⟨A, c, hv, k1, k2, k3, k4, k5⟩ := (h.own _ hk).form
    obtain ⟨x, hx⟩ : ∃ x, (S.h k && !isFirst (S.l k) p) = x := ⟨_, rfl⟩
    have hDD : Hid (dropC S p = ⟨upd S.l k (others (S.l k) p), upd S.h k x⟩) := by show dropC S p = _; unfold dropC; rw [hi]; simp only [hx]
    have hO := of_c g ((k : Int) + 1) _ h0.made
    rw [show lineV g ((k : Int) + 1) = .pointer (some ⟨g, 1 + k * 2, none⟩) by unfold lineV; rw [if_pos (by omega)]; rw [show ((k : Int) + 1).toNat - 1 = k by omega]] at hO
    have HO := Lib.hid hO
    have cw := h0.who hk
    rw [hv] at cw
    have ch := h0.hld hk
    have fr := h0.blk.frozen (1 + k * 2 + 1)
    have hR0 : IntsR (w.alloc (.cells #[.int .i64 p] 3)) A (S.l k) := k3.below hB0
    have HF := Lib.hid (first_c g (1 + k * 2) c A (S.l k) p _ cw hR0)
    have hh1 : x = true → S.l k ≠ [] := fun hx1 => h.held k hk (by rw [← hx] at hx1; simp at hx1; exact hx1.1)
    have hh2 : x = true → others (S.l k) p ≠ [] := fun hx1 => others_head (hh1 hx1) (by rw [← hx] at hx1; simp at hx1; exact hx1.2)
    obtain ⟨hP1, hT1⟩ := h0.put_held hk x hh1
    have hown := hP1.own k hk
    have hqv : (V k).ownBlock ≠ some w.heap.size := fun e => by have := ((h.own k hk).lt _ e).2.1; omega
    have hgq : w.heap.size ≠ g := by have := h.blk.lt; omega
    have cq1 : ((w.alloc (.cells #[.int .i64 p] 3)).setCell ⟨g, 1 + k * 2 + 1, none⟩ (.bool x)).cell? ⟨w.heap.size, 0, none⟩ = some (.int .i64 p) := ((hq.far hgq (p := ⟨g, 1 + k * 2 + 1, none⟩) (.bool x)).cell 0).trans rfl
    have HD := Lib.hid (delf_c B w.heap.size (V k) (S.l k) p _ hown (by have := h.len k hk; omega) cq1 hqv)
    have cw1 := hP1.who hk
    have fw1 : ∀ (w2 : World), Keeps (fun b => (V k).ownBlock = some b) ((w.alloc (.cells #[.int .i64 p] 3)).setCell ⟨g, 1 + k * 2 + 1, none⟩ (.bool x)) w2 → w2.frozen? ⟨g, 1 + k * 2, none⟩ = false ∧ ∃ u, w2.cell? ⟨g, 1 + k * 2, none⟩ = some u := fun w2 hK => by
      have hg : (V k).ownBlock ≠ some g := by
        intro e
        obtain ⟨_, _, cur, hc⟩ := (h.own k hk).lt _ e
        exact Blk.ne_ hc h.blk (by decide) rfl
      have hb := hK.blk hP1.blk hg
      exact ⟨hb.frozen _, _, (hb.cell _).trans (cc_who _ _ hk)⟩
    have HW := Lib.hid fw1
    have HP := Lib.hid (And.intro hP1 (And.intro hT1 hh2))
    have hw : IntKind.i64.wrap ((k : Int) + 1) = (k : Int) + 1 := by rw [IntWalk.i64_in _ (by omega)]
    have hlen := h.len k hk
    have HK := Lib.hid (And.intro hk hlen)
    have hle : (others (S.l k) p).length ≤ (S.l k).length := List.length_filter_le _ _
    have HLe := Lib.hid hle
    rw [hv] at cw1
    have HVk := Lib.hid hv
    rw [hv] at HD
    obtain ⟨f, hf⟩ : ∃ f, isFirst (S.l k) p = f := ⟨_, rfl⟩
    rw [hf] at HF hx
    have HB0 := Lib.hid hB0
    have HFP : Hid ((upd S.h k x) k = x) := (show upd S.h k x k = x from upd_self _ _ _)
    clear h h0 hq hi hk hmem hv k1 k2 k3 k4 k5 hO hR0 hh1 hh2 hP1 hT1 hown hqv hgq fw1 hlen hle hf hB0 hw
    unfold isF at HD
    obtain ⟨o, ho⟩ : ∃ o, 1 + k * 2 = o := ⟨_, rfl⟩
    have HOO := Lib.hid ho
    rw [ho] at HO cw ch fr HF cq1 HD cw1 HW
    clear ho
    cases hh : S.h k with
    | true =>
      rw [hh] at ch hx
      simp only [Bool.true_and] at hx
      subst hx
      clear hh
      go_enter Try.func16, Try.ntmps16
      go_wp2_with (first
        | (go_at_call 23; refine HI.out.mono ?_; unfold inV; rintro e w1 ⟨rfl, rfl⟩)
        | (go_at_call 29; refine HO.out.mono ?_; rintro e w1 ⟨rfl, rfl⟩)
        | (go_at_call 25; refine HF.out.mono ?_; rintro e w1 ⟨rfl, rfl⟩)
        | (go_at_call 30; refine HD.out.mono ?_; rintro e w2 ⟨v', rfl, hown2, hv2, hK2⟩; obtain ⟨f2, u2, c2⟩ := HW.out w2 (by rw [HVk.out]; exact hK2); obtain ⟨A', c', hv', -⟩ := hown2.form; subst hv'))
      go_ret2
      rw [← HOO.out] at hK2 ⊢
      obtain ⟨hP1, hT1, hh2⟩ := HP.out
      obtain ⟨hZ, hT2⟩ := hP1.put_who HK.out.1 hown2 (by rw [HVk.out]; exact hK2) (.inl (by rw [HVk.out]; exact hv2)) (Nat.le_trans HLe.out HK.out.2) (fun e => hh2 (HFP.out.symm.trans e))
      exact ⟨rfl, _, by rw [hDD.out]; exact hZ, (Turn.below HB0.out).trans (hT1.trans hT2)⟩
    | false =>
      rw [hh] at ch hx
      simp only [Bool.false_and] at hx
      subst hx
      clear hh
      go_enter Try.func16, Try.ntmps16
      go_wp2_with (first
        | (go_at_call 23; refine HI.out.mono ?_; unfold inV; rintro e w1 ⟨rfl, rfl⟩)
        | (go_at_call 29; refine HO.out.mono ?_; rintro e w1 ⟨rfl, rfl⟩)
        | (go_at_call 30; refine HD.out.mono ?_; rintro e w2 ⟨v', rfl, hown2, hv2, hK2⟩; obtain ⟨f2, u2, c2⟩ := HW.out w2 (by rw [HVk.out]; exact hK2); obtain ⟨A', c', hv', -⟩ := hown2.form; subst hv'))
      go_ret2
      rw [← HOO.out] at hK2 ⊢
      obtain ⟨hP1, hT1, hh2⟩ := HP.out
      obtain ⟨hZ, hT2⟩ := hP1.put_who HK.out.1 hown2 (by rw [HVk.out]; exact hK2) (.inl (by rw [HVk.out]; exact hv2)) (Nat.le_trans HLe.out HK.out.2) (fun e => hh2 (HFP.out.symm.trans e))
      exact ⟨rfl, _, by rw [hDD.out]; exact hZ, (Turn.below HB0.out).trans (hT1.trans hT2)⟩
end Go.Proofs.Ytligkfaldaoocaa
