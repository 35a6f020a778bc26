/- ActThrough, walked. Printed by gen16through.py. -/
import Derived.Test.YtcbmcengccealaaRestW
namespace Go.Proofs.Ytcbmcengccealaa
set_option linter.unusedVariables false
open Go.RowKit

theorem lt_of_lt_le' {a b c : Nat} (h : a < b) (k : b ≤ c) : a < c := Nat.lt_of_lt_of_le h k
/-- Acts in memory, apart from a row. -/
def OpsX (g b : Nat) (w : World) (A : Option Addr) (L : List OpV) : Prop :=
  L ≠ [] → ∃ b0 off, A = some ⟨b0, off, none⟩ ∧ b0 < w.heap.size ∧ ¬ two g b b0 ∧ ∀ i x, L[i]? = some x → OpAt w b0 (off + i * 3) x
theorem OpsX.keeps {g b : Nat} {w w' : World} {A : Option Addr} {L : List OpV} (h : OpsX g b w A L) (k : Keeps (two g b) w w') : OpsX g b w' A L := fun hL => by
  obtain ⟨b0, off, h1, h2, h3, h4⟩ := h hL
  exact ⟨b0, off, h1, Nat.lt_of_lt_of_le h2 k.size, h3, fun i x hi => (h4 i x hi).keep fun p hp => k.cell (by rw [hp]; exact h2) (by rw [hp]; exact h3)⟩
theorem OpsX.of {g b : Nat} {w w' : World} {A : Option Addr} {L : List OpV} (h : OpsR w A L) (k : Below w.heap.size w w') (hg : w.heap.size ≤ g) (hb : w.heap.size ≤ b) : OpsX g b w' A L := fun hL => by
  obtain ⟨b0, off, h1, h2, h4⟩ := h hL
  exact ⟨b0, off, h1, Nat.lt_of_lt_of_le h2 k.size, by rintro (h | h) <;> omega, fun i x hi => (h4 i x hi).keep fun p hp => k.cell (by rw [hp]; exact h2)⟩
theorem next_w {g b : Nat} {L : List OpV} {w : World} (h : RowA w g b L) (k n : Int) (s : ByteArray) {is : Bool} (hx : headOf L = ⟨k, n, s⟩) (hi : (!L.isEmpty) = is) :
    Calls Try.prog 18 #[.pointer (some ⟨g, 0, none⟩)] w fun e w' => e = .returned (.tuple #[.agg #[.int .i64 k, .int .i64 n, .string s], .bool is]) ∧ Below w.heap.size w w' := next_v h hx hi
theorem left_v {B g b : Nat} {L : List OpV} {w : World} (h : Std B w g b L) {t : Int} (ht : leftOf L = t) :
    Calls Try.prog 23 #[.pointer (some ⟨g, 0, none⟩)] w fun e w' => e = .returned (.int .i64 t) ∧ Below w.heap.size w w' :=
  (left_a g b L w h.row h.ok).mono fun e w' ⟨he, hb⟩ => ⟨by rw [he, ht], hb⟩
theorem blk_new2 (w : World) (cs ds : Array Value) : Blk ((w.alloc (.cells cs 23)).alloc (.cells ds 23)) (w.heap.size + 1) 23 ds := by
  have := Blk.new (w.alloc (.cells cs 23)) 23 ds
  rwa [show (w.alloc (.cells cs 23)).heap.size = w.heap.size + 1 by simp] at this
/-- What is left behind k ticks of a run. -/
def afterK (x : OpV) (R : List OpV) (k : Nat) : List OpV := if (k : Int) < x.n then ⟨x.k, x.n - k, x.s⟩ :: R else R
theorem afterK_lt (x : OpV) (R : List OpV) (k : Nat) (h : (k : Int) < x.n) : afterK x R k = ⟨x.k, x.n - k, x.s⟩ :: R := if_pos h
theorem afterK_0 (x : OpV) (R : List OpV) (h : 1 ≤ x.n) : afterK x R 0 = x :: R := by
  rw [afterK_lt x R 0 (by simpa using (by omega : 0 < x.n))]
  simp
theorem afterK_end (x : OpV) (R : List OpV) (k : Nat) (h : ¬ (k : Int) < x.n) : afterK x R k = R := if_neg h
theorem ran_afterK (x : OpV) (R : List OpV) (k : Nat) (hk : x.k = 1) (h : (k : Int) < x.n) : ranL (⟨x.k, x.n - k, x.s⟩ :: R) = afterK x R (k + 1) := by
  simp only [ranL]
  rw [if_pos hk]
  by_cases h1 : x.n - k - 1 = 0
  · rw [if_pos h1, afterK_end x R (k + 1) (by push_cast; omega)]
  · rw [if_neg h1, afterK_lt x R (k + 1) (by push_cast; omega)]
    congr 2
    push_cast; omega
theorem drop_cons {M : List OpV} {i : Nat} {x : OpV} (h : M[i]? = some x) : M.drop i = x :: M.drop (i + 1) := by
  have hk : i < M.length := (List.getElem?_eq_some_iff.1 h).1
  have hx : M[i] = x := (List.getElem?_eq_some_iff.1 h).2
  rw [List.drop_eq_getElem_cons hk, hx]
theorem left_cons (k n : Int) (s : ByteArray) (R : List OpV) : leftOf (⟨k, n, s⟩ :: R) = (if k = 1 then n else 0) + leftOf R := rfl
theorem OkRow.drop {M : List OpV} (h : OkRow M) (i : Nat) : OkRow (M.drop i) := ⟨by have := h.1; simp; omega, fun x hx => h.2 x (List.mem_of_mem_drop hx)⟩
theorem left_row (M : List OpV) (h : OkRow M) : 0 ≤ leftOf M ∧ leftOf M ≤ 2048 := by
  have := left_take_bounds M h M.length
  rwa [List.take_length] at this
set_option maxRecDepth 20000 in
set_option maxHeartbeats 1600000 in
theorem through_c (A : Option Addr) (n c : Nat) (L : List OpV) (w : World) (hl : n ≤ 140737488355328) (h : n = L.length ∧ OpsR w A L) :
    Calls Try.prog 5 #[.slice A n c] w fun e w' => e = .returned (.bool true) ∧ Below w.heap.size w w' := by
  have HO := Lib.hid h
  clear h
  go_enter Try.func5, Try.ntmps5
  go_wp2_with (first
    | (go_at_call 11; with_reducible refine (new_s hF.reads hFA hE0 hB1 hB1.size).mono ?_; rintro e w2 ⟨g, b, rfl, hs2, hB2, hb2, hg2, hgb2⟩)
    | (go_at_call 26; refine (made_c A n c L _ hl ⟨HO.out.1, HO.out.2.below hB0⟩).mono ?_; rintro e w1 ⟨Ai, ci, bi, M, rfl, hM, hF, hb1⟩; have hE0 := newE_of M hM; have hFA := hF.nil; have hB1 := below_lift hB0 hb1 hB0.size)
    | (go_at_call 10; refine (works_c _).mono ?_; rintro e w0 ⟨rfl, hB0⟩))
  have hX2 := OpsX.of hF.reads hb2 hg2 hgb2
  have HM := Lib.hid hM
  have hm32 : M.length ≤ 32 := hM.1
  clear hF hb1 hb2 hB0 hB1 hM hE0 hFA hg2 hgb2
  go_loopw [7, 8] (fun t y wr => ∃ i : Nat, i ≤ M.length ∧ y = .int .i64 i ∧ t = .int .i64 (leftOf (M.take i)) ∧ Std w.heap.size wr g b M ∧ Below w.heap.size w wr ∧ OpsX g b wr Ai M) (fun _ y _ => M.length - (intOf y).toNat)
  case atStart => exact ⟨0, Nat.zero_le _, rfl, rfl, hs2, hB2, hX2⟩
  case round =>
    clear hs2 hB2 hX2
    obtain ⟨i, hi, rfl, rfl, hs, hB, hX⟩ := hrel
    have HXX := Lib.hid hX
    clear hX
    by_cases hlt : i < M.length
    · obtain ⟨b0, off, rfl, hb0, -, hx⟩ := HXX.out (by intro e; rw [e] at hlt; simp at hlt)
      obtain ⟨x, hxk⟩ : ∃ x, M[i]? = some x := ⟨_, List.getElem?_eq_getElem hlt⟩
      have HAT := Lib.hid (hx i x hxk)
      obtain ⟨o0, o1, o2⟩ := hx i x hxk
      have hok := HM.out.2 x (List.mem_of_getElem? hxk)
      have HC : Hid (checkE x = 0) := by show checkE x = 0; simp [checkE, hok]
      have HD := Lib.hid (left_take M i x hxk)
      have hbd := left_take_bounds M HM.out i
      clear hx hxk
      have hltI : (i : Int) < (M.length : Nat) := by omega
      by_cases hk1 : x.k = 1
      · have hkb : (x.k == 1) = true := by simp [hk1]
        have hr := ok_run x hok hk1
        have Hk := Lib.hid hk1
        clear hk1 hok
        go_wp2_with (go_at_call 8; refine (check_a x _).mono ?_; rw [HC.out]; rintro e w3 ⟨rfl, hb3⟩; have hs3 := hs.below hb3; have hB3 := below_lift hB hb3 hB.size; have hX3 := HXX.out.keeps (Keeps.of_below hb3); obtain ⟨o0, o1, o2⟩ := HAT.out.keep (w' := w3) (fun p hp => hb3.cell (by rw [hp]; exact hb0)))
        go_roundw
        case rel => exact ⟨i + 1, by omega, rfl, by rw [HD.out, if_pos Hk.out], hs3, hB3, hX3⟩
        case measure => simp [intOf]; omega
      · have hkb : (x.k == 1) = false := by simp [hk1]
        have Hk := Lib.hid hk1
        clear hk1 hok
        go_wp2_with (go_at_call 8; refine (check_a x _).mono ?_; rw [HC.out]; rintro e w3 ⟨rfl, hb3⟩; have hs3 := hs.below hb3; have hB3 := below_lift hB hb3 hB.size; have hX3 := HXX.out.keeps (Keeps.of_below hb3); obtain ⟨o0, o1, o2⟩ := HAT.out.keep (w' := w3) (fun p hp => hb3.cell (by rw [hp]; exact hb0)))
        go_roundw
        case rel => exact ⟨i + 1, by omega, rfl, by rw [HD.out, if_neg Hk.out, Int.add_zero], hs3, hB3, hX3⟩
        case measure => simp [intOf]; omega
    · obtain rfl : M.length = i := by omega
      go_wp2_with fail
      have hT0 : Hid (leftOf (M.take M.length) = leftOf M) := by show leftOf (M.take M.length) = leftOf M; rw [List.take_length]
      go_loopw [6, 7] (fun y t wr => ∃ at_ : Nat, at_ ≤ M.length ∧ y = .int .i64 at_ ∧ t = .int .i64 (leftOf (M.drop at_)) ∧ Std w.heap.size wr g b (M.drop at_) ∧ Below w.heap.size w wr ∧ OpsX g b wr Ai M) (fun y _ _ => M.length - (intOf y).toNat)
      case atStart => exact ⟨0, Nat.zero_le _, rfl, by rw [hT0.out]; rfl, hs, hB, HXX.out⟩
      case round =>
        clear hs hB HXX
        obtain ⟨at_, hat, rfl, rfl, hs, hB, hX⟩ := hrel
        by_cases hlt2 : at_ < M.length
        · obtain ⟨x, hxk⟩ : ∃ x, M[at_]? = some x := ⟨_, List.getElem?_eq_getElem hlt2⟩
          have hok := HM.out.2 x (List.mem_of_getElem? hxk)
          have hdr := drop_cons hxk
          have HDR := Lib.hid hdr
          have hbR := left_row _ (HM.out.drop (at_ + 1))
          have HXK := Lib.hid hxk
          have hltI : (at_ : Int) < (M.length : Nat) := by omega
          rw [hdr] at hs
          have hXS := Lib.hid hX
          obtain ⟨b0, off, rfl, hb0, -, hx⟩ := hX (by intro e; rw [e] at hlt2; simp at hlt2)
          obtain ⟨o0, o1, o2⟩ := hx at_ x hxk
          clear hx hxk hdr
          by_cases hk1 : x.k = 1
          · have hkb : (x.k == 1) = true := by simp [hk1]
            have hr := ok_run x hok hk1
            have Hk := Lib.hid hk1
            have HL0 : Hid (leftOf (x :: M.drop (at_ + 1)) = x.n + leftOf (M.drop (at_ + 1))) := by
              show leftOf (x :: M.drop (at_ + 1)) = _
              simp only [leftOf]; rw [if_pos hk1]
            clear hk1 hok
            go_wp2_with fail
            obtain ⟨wo, rfl⟩ : ∃ wo : World, wo = wr := ⟨_, rfl⟩
            go_loopw [7, 10] (fun t y wr => ∃ kk : Nat, (kk : Int) ≤ x.n ∧ y = .int .i64 kk ∧ t = .int .i64 (x.n - kk + leftOf (M.drop (at_ + 1))) ∧ Std w.heap.size wr g b (afterK x (M.drop (at_ + 1)) kk) ∧ Below w.heap.size w wr ∧ OpsX g b wr (some ⟨b0, off, none⟩) M) (fun _ y _ => x.n.toNat - (intOf y).toNat)
            case atStart => exact ⟨0, by omega, rfl, by rw [HDR.out, HL0.out]; simp, by rw [afterK_0 x _ hr.1]; exact hs, hB, hXS.out⟩
            case round =>
              clear hs hB hb0 o0 o1 o2
              obtain ⟨kk, hkk, rfl, rfl, hs, hB, hX⟩ := hrel
              have hXN := Lib.hid hX
              by_cases hlt3 : (kk : Int) < x.n
              · obtain ⟨b1, off1, hA1, hb0, -, hx⟩ := hX (by intro e; rw [e] at hlt2; simp at hlt2)
                simp only [Option.some.injEq, Addr.mk.injEq, and_true] at hA1
                obtain ⟨rfl, rfl⟩ := hA1
                obtain ⟨o0, o1, o2⟩ := hx at_ x HXK.out
                have H0 := Lib.hid o0
                have H1 := Lib.hid o1
                have H2 := Lib.hid o2
                rw [afterK_lt x _ kk hlt3] at hs
                have HX : Hid (headOf (⟨x.k, x.n - kk, x.s⟩ :: M.drop (at_ + 1)) = ⟨x.k, x.n - kk, x.s⟩) := rfl
                have HI : Hid ((!(⟨x.k, x.n - kk, x.s⟩ :: M.drop (at_ + 1) : List OpV).isEmpty) = true) := rfl
                have HR1 : Hid (ranE (⟨x.k, x.n - kk, x.s⟩ :: M.drop (at_ + 1)) = 0) := if_pos Hk.out
                have HR2 : Hid (ranL (⟨x.k, x.n - kk, x.s⟩ :: M.drop (at_ + 1)) = afterK x (M.drop (at_ + 1)) (kk + 1)) := ran_afterK x _ kk Hk.out hlt3
                have HD1 : Hid (didE (⟨x.k, x.n - kk, x.s⟩ :: M.drop (at_ + 1)) = 250) := if_pos Hk.out
                have HD2 : Hid (didL (⟨x.k, x.n - kk, x.s⟩ :: M.drop (at_ + 1)) = ⟨x.k, x.n - kk, x.s⟩ :: M.drop (at_ + 1)) := if_pos Hk.out
                have HL : Hid (leftOf (⟨x.k, x.n - kk, x.s⟩ :: M.drop (at_ + 1)) = x.n - kk + leftOf (M.drop (at_ + 1))) := by
                  show leftOf _ = _
                  rw [left_cons, if_pos Hk.out]
                have hkn : (x.k != 1) = false := by simp [Hk.out]
                clear hx hX o0 o1 o2
                go_wp2_with (first
                  | (go_at_call 14; with_reducible refine (ran_s hs6 hB6 HR1.out HR2.out).mono ?_; rintro e w7 ⟨rfl, hs7, hB7, hK7⟩; have K7 := K6.trans hK7 (fun _ h => .inl h))
                  | (go_at_call 16; with_reducible refine (did_s hs5 hB5 HD1.out HD2.out).mono ?_; rintro e w6 ⟨rfl, hs6, hB6, hK6⟩; have K6 := K5.trans hK6 (fun _ h => .inl h))
                  | (go_at_call 23; with_reducible refine (left_v hs4 HL.out).mono ?_; rintro e w5 ⟨rfl, hb5⟩; have hs5 := hs4.below hb5; have hB5 := below_lift hB4 hb5 hB4.size; have K5 := K4.below hb5; have ht5 := Blk.on' ht4 hb5; have c13 := cell3a ht5)
                  | (go_at_call 21; with_reducible refine (done_a g b _ _ ((hs3.alloc _).alloc _).row).mono ?_; rintro e w4 ⟨rfl, hb4⟩; have hs4 := ((hs3.alloc _).alloc _).below hb4; have hB4 := below_lift ((hB3.alloc hB3.size _).alloc (hB3.alloc hB3.size _).size _) hb4 ((hB3.alloc hB3.size _).alloc (hB3.alloc hB3.size _).size _).size; have K4 := ((K3.alloc _).alloc _).below hb4; have ht4 := Blk.on' (blk_new2 w3 #[.int .i64 x.k, .int .i64 (x.n - kk), .string x.s] #[.int .i64 x.k, .int .i64 (x.n - kk), .string x.s]) hb4)
                  | (go_at_call 18; with_reducible refine (next_w hs.row x.k (x.n - kk) x.s HX.out HI.out).mono ?_; rintro e w3 ⟨rfl, hb3⟩; have hs3 := hs.below hb3; have hB3 := below_lift hB hb3 hB.size; have K3 := Keeps.of_below (S := two g b) hb3; have o0 := (hb3.cell (p := ⟨b0, off + at_ * 3, none⟩) hb0).trans H0.out; have o1 := (hb3.cell (p := ⟨b0, off + at_ * 3 + 1, none⟩) hb0).trans H1.out; have o2 := (hb3.cell (p := ⟨b0, off + at_ * 3 + 2, none⟩) hb0).trans H2.out; have hb0' : b0 < w3.heap.size := lt_of_lt_le' hb0 hb3.size))
                go_roundw
                case rel => exact ⟨kk + 1, by push_cast; omega, rfl, congrArg _ (by push_cast; omega), hs7, hB7, hXN.out.keeps K7⟩
                case measure => simp [intOf]; omega
              · rw [afterK_end x _ kk hlt3] at hs
                go_wp2_with fail
                go_roundw
                case rel => exact ⟨at_ + 1, by omega, rfl, congrArg _ (by omega), hs, hB, hX⟩
                case measure => simp [intOf]; omega
          · have hkb : (x.k == 1) = false := by simp [hk1]
            have Hk := Lib.hid hk1
            have HL0 : Hid (leftOf (x :: M.drop (at_ + 1)) = leftOf (M.drop (at_ + 1))) := by
              show leftOf (x :: M.drop (at_ + 1)) = _
              simp only [leftOf]; rw [if_neg hk1, Int.zero_add]
            clear hk1 hok
            go_wp2_with fail
            obtain ⟨wo, rfl⟩ : ∃ wo : World, wo = wr := ⟨_, rfl⟩
            go_loopw [7, 10] (fun t y wr => ∃ kk : Nat, kk ≤ 1 ∧ y = .int .i64 kk ∧ t = .int .i64 (leftOf (M.drop (at_ + 1))) ∧ Std w.heap.size wr g b (if kk = 0 then x :: M.drop (at_ + 1) else M.drop (at_ + 1)) ∧ Below w.heap.size w wr ∧ OpsX g b wr (some ⟨b0, off, none⟩) M) (fun _ y _ => 1 - (intOf y).toNat)
            case atStart => exact ⟨0, by omega, rfl, by rw [HDR.out, HL0.out], hs, hB, hXS.out⟩
            case round =>
              clear hs hB hb0 o0 o1 o2
              obtain ⟨kk, hkk, rfl, rfl, hs, hB, hX⟩ := hrel
              have hXN := Lib.hid hX
              by_cases hlt3 : kk = 0
              · subst hlt3
                obtain ⟨b1, off1, hA1, hb0, -, hx⟩ := hX (by intro e; rw [e] at hlt2; simp at hlt2)
                simp only [Option.some.injEq, Addr.mk.injEq, and_true] at hA1
                obtain ⟨rfl, rfl⟩ := hA1
                obtain ⟨o0, o1, o2⟩ := hx at_ x HXK.out
                have H0 := Lib.hid o0
                have H1 := Lib.hid o1
                have H2 := Lib.hid o2
                rw [if_pos rfl] at hs
                have HX : Hid (headOf (x :: M.drop (at_ + 1)) = ⟨x.k, x.n, x.s⟩) := rfl
                have HI : Hid ((!(x :: M.drop (at_ + 1) : List OpV).isEmpty) = true) := rfl
                have HR1 : Hid (ranE (x :: M.drop (at_ + 1)) = 250) := if_neg Hk.out
                have HR2 : Hid (ranL (x :: M.drop (at_ + 1)) = x :: M.drop (at_ + 1)) := if_neg Hk.out
                have HD1 : Hid (didE (x :: M.drop (at_ + 1)) = 0) := if_neg Hk.out
                have HD2 : Hid (didL (x :: M.drop (at_ + 1)) = M.drop (at_ + 1)) := if_neg Hk.out
                have HL := HL0
                have hkn : (x.k != 1) = true := by simp [Hk.out]
                clear hx hX o0 o1 o2
                go_wp2_with (first
                  | (go_at_call 16; with_reducible refine (did_s hs6 hB6 HD1.out HD2.out).mono ?_; rintro e w7 ⟨rfl, hs7, hB7, hK7⟩; have K7 := K6.trans hK7 (fun _ h => .inl h))
                  | (go_at_call 14; with_reducible refine (ran_s hs5 hB5 HR1.out HR2.out).mono ?_; rintro e w6 ⟨rfl, hs6, hB6, hK6⟩; have K6 := K5.trans hK6 (fun _ h => .inl h))
                  | (go_at_call 23; with_reducible refine (left_v hs4 HL.out).mono ?_; rintro e w5 ⟨rfl, hb5⟩; have hs5 := hs4.below hb5; have hB5 := below_lift hB4 hb5 hB4.size; have K5 := K4.below hb5; have ht5 := Blk.on' ht4 hb5; have c13 := cell3a ht5)
                  | (go_at_call 21; with_reducible refine (done_a g b _ _ ((hs3.alloc _).alloc _).row).mono ?_; rintro e w4 ⟨rfl, hb4⟩; have hs4 := ((hs3.alloc _).alloc _).below hb4; have hB4 := below_lift ((hB3.alloc hB3.size _).alloc (hB3.alloc hB3.size _).size _) hb4 ((hB3.alloc hB3.size _).alloc (hB3.alloc hB3.size _).size _).size; have K4 := ((K3.alloc _).alloc _).below hb4; have ht4 := Blk.on' (blk_new2 w3 #[.int .i64 x.k, .int .i64 x.n, .string x.s] #[.int .i64 x.k, .int .i64 x.n, .string x.s]) hb4)
                  | (go_at_call 18; with_reducible refine (next_w hs.row x.k x.n x.s HX.out HI.out).mono ?_; rintro e w3 ⟨rfl, hb3⟩; have hs3 := hs.below hb3; have hB3 := below_lift hB hb3 hB.size; have K3 := Keeps.of_below (S := two g b) hb3; have o0 := (hb3.cell (p := ⟨b0, off + at_ * 3, none⟩) hb0).trans H0.out; have o1 := (hb3.cell (p := ⟨b0, off + at_ * 3 + 1, none⟩) hb0).trans H1.out; have o2 := (hb3.cell (p := ⟨b0, off + at_ * 3 + 2, none⟩) hb0).trans H2.out; have hb0' : b0 < w3.heap.size := lt_of_lt_le' hb0 hb3.size))
                go_roundw
                case rel => exact ⟨1, by omega, rfl, rfl, hs7, hB7, hXN.out.keeps K7⟩
                case measure => simp [intOf]
              · obtain rfl : 1 = kk := by omega
                rw [if_neg (by omega)] at hs
                go_wp2_with fail
                go_roundw
                case rel => exact ⟨at_ + 1, by omega, rfl, rfl, hs, hB, hX⟩
                case measure => simp [intOf]; omega
        · obtain rfl : M.length = at_ := by omega
          have hd0 : M.drop M.length = [] := List.drop_length
          rw [hd0] at hs
          clear hX hd0
          go_wp2_with (first
            | (go_at_call 20; with_reducible refine (rest_s hs6 hB6).mono ?_; rintro e w7 ⟨A7, c7, b7, rfl, -, -, hB7, -⟩)
            | (go_at_call 16; with_reducible refine (did_s hs5 hB5 (L' := []) (v := 250) rfl rfl).mono ?_; rintro e w6 ⟨rfl, hs6, hB6, -⟩)
            | (go_at_call 14; with_reducible refine (ran_s hs4 hB4 (L' := []) (v := 250) rfl rfl).mono ?_; rintro e w5 ⟨rfl, hs5, hB5, -⟩)
            | (go_at_call 23; with_reducible refine (left_s hs3 hB3 (v := 0) rfl).mono ?_; rintro e w4 ⟨rfl, hs4, hB4, -⟩)
            | (go_at_call 21; with_reducible refine (done_s hs hB (is := true) rfl).mono ?_; rintro e w3 ⟨rfl, hs3, hB3, -⟩))
          go_ret
          exact ⟨rfl, hB7⟩
end Go.Proofs.Ytcbmcengccealaa
