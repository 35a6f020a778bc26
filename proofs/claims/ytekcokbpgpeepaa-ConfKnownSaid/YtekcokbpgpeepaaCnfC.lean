/- Layer 5: what may be: the program's Check. -/
import Derived.Test.YtekcokbpgpeepaaCnfP
namespace Go.Proofs.Ytekcokbpgpeepaa
set_option linter.unusedVariables false
open Go.RowKit

/-- The closures. -/
def pmF (q : Nat) : Value := .func (.func 47) #[] #[.pointer (some ⟨q, 0, none⟩)]
def c1F : Value := .func (.func 26) #[] #[]
def c2F (q : Nat) : Value := .func (.func 29) #[] #[.pointer (some ⟨q, 0, none⟩)]
theorem part1_c (q : Nat) (t : TV) (bud : Int) (w : World) (h : w.cell? ⟨q, 1, none⟩ = some (.int .i64 bud)) (hq : q < w.heap.size) {v : Bool} (hv : taskB t bud = v) :
    Calls Try.prog 47 #[.agg #[.int .i64 t.p, .int .i64 t.d, .int .i64 t.b, .int .i64 t.ls, .int .i64 t.l, .int .i64 t.g, .int .i64 t.lg, .int .i64 t.lk], .pointer (some ⟨q, 0, none⟩)] w fun e w' => e = .returned (.bool (!v)) ∧ Below w.heap.size w w' := by
  have HB : Hid (Below w.heap.size w (w.alloc (.cells #[.int .i64 t.p, .int .i64 t.d, .int .i64 t.b, .int .i64 t.ls, .int .i64 t.l, .int .i64 t.g, .int .i64 t.lg, .int .i64 t.lk] 46))) := (Below.refl _ _).alloc (Nat.le_refl _) _
  have HT := Lib.hid (fun W => task_c t bud W hv)
  have hne : ¬ q = w.heap.size := by omega
  clear hv
  go_enter Try.func47, Try.ntmps47
  go_wp2_with (go_at_call 48; with_reducible refine (HT.out _).mono ?_; rintro e w1 ⟨rfl, hb1⟩)
  go_ret
  exact ⟨rfl, below_lift HB.out hb1 HB.out.size⟩
theorem idx_tasks (A : Option Addr) (c : Nat) (L : List TV) (q : Nat) (bud : Int) (w : World) (h : TksAt w A L) (hm : L.length ≤ 17592186044416) (hq : w.cell? ⟨q, 1, none⟩ = some (.int .i64 bud) ∧ q < w.heap.size) :
    Calls Try.prog 55 #[.slice A L.length c, pmF q] w fun e w' => ∃ z, e = .returned (.int .i64 z) ∧ IdxB L (fun t => taskB t bud) z ∧ Below w.heap.size w w' := by
  have HR := Lib.hid h
  clear h
  have HQ := Lib.hid hq
  clear hq
  unfold pmF
  go_enter Try.func55, Try.ntmps55
  go_wp2
  go_loopw [8] (fun x wr => ∃ k : Nat, x = .int .i64 k ∧ Hid (k ≤ L.length ∧ (L.take k).all (fun t => taskB t bud) = true) ∧ Below w.heap.size w wr) (fun x _ => L.length - (intOf x).toNat)
  case atStart => exact ⟨0, rfl, Lib.hid ⟨Nat.zero_le _, by simp⟩, Below.refl _ _⟩
  case round =>
    obtain ⟨k, rfl, HK, hB⟩ := hrel
    by_cases hlt : k < L.length
    · obtain ⟨t, hx⟩ : ∃ t, L[k]? = some t := ⟨_, List.getElem?_eq_getElem hlt⟩
      obtain ⟨b, off, rfl, hbl, hc⟩ := (HR.out.below hB) (by intro e; rw [e] at hx; cases hx)
      obtain ⟨q0, q1, q2, q3, q4, q5, q6, q7⟩ := hc k t hx
      have hq' : wr.cell? ⟨q, 1, none⟩ = some (.int .i64 bud) := (hB.cell (p := ⟨q, 1, none⟩) HQ.out.2).trans HQ.out.1
      have hql : q < wr.heap.size := Nat.lt_of_lt_of_le HQ.out.2 hB.size
      have HQ' := Lib.hid hq'
      clear hq'
      have hk1 : (k : Int) < (L.length : Int) := by omega
      have hw : wrap64 ((k : Int) + 1) = ((k + 1 : Nat) : Int) := by rw [IntWalk.wrap64_in _ (by omega)]; omega
      have HX := Lib.hid hx
      have HBB := Lib.hid hB
      clear hx hc hB
      cases hP : (fun t => taskB t bud) t with
      | true =>
        have HP := Lib.hid hP
        clear hP
        go_wp2_with (go_at_call 47; with_reducible refine (part1_c q t bud _ HQ'.out hql HP.out).mono ?_; rintro e w1 ⟨rfl, hb1⟩)
        go_roundw
        case rel => exact ⟨k + 1, rfl, Lib.hid ⟨by omega, all_succ HK.out.2 HX.out HP.out⟩, below_lift HBB.out hb1 HBB.out.size⟩
        case measure => simp [intOf]; omega
      | false =>
        have HP := Lib.hid hP
        clear hP
        go_wp2_with (go_at_call 47; with_reducible refine (part1_c q t bud _ HQ'.out hql HP.out).mono ?_; rintro e w1 ⟨rfl, hb1⟩)
        go_ret
        exact ⟨_, rfl, .inr ⟨k, rfl, all_not HX.out HP.out⟩, below_lift HBB.out hb1 HBB.out.size⟩
    · have hk1 : ¬ (k : Int) < (L.length : Int) := by omega
      go_wp2
      go_ret
      exact ⟨_, rfl, .inl ⟨rfl, all_end HK.out.2 (by omega)⟩, hB⟩
theorem con_tasks (A : Option Addr) (c : Nat) (L : List TV) (q : Nat) (bud : Int) (w : World) (h : TksAt w A L) (hm : L.length ≤ 17592186044416) (hq : w.cell? ⟨q, 1, none⟩ = some (.int .i64 bud) ∧ q < w.heap.size) {v : Bool} (hv : L.all (fun t => taskB t bud) = v) :
    Calls Try.prog 46 #[.slice A L.length c, pmF q] w fun e w' => e = .returned (.bool (!v)) ∧ Below w.heap.size w w' := by
  have hi := idx_tasks A c L q bud w h hm hq
  rw [show IdxB L (fun t => taskB t bud) = fun z : Int => (z = -1 ∧ v = true) ∨ ∃ k : Nat, z = k ∧ v = false by unfold IdxB; rw [hv]] at hi
  have HI := Lib.hid hi
  clear h hv hi hq
  go_enter Try.func46, Try.ntmps46
  go_wp2_with (go_at_call 55; with_reducible refine HI.out.mono ?_; rintro e w1 ⟨z, rfl, hz, hb1⟩)
  cases v with
  | true =>
    obtain rfl : z = -1 := by
      rcases hz with ⟨h1, _⟩ | ⟨_, _, h2⟩
      · exact h1
      · cases h2
    clear hz
    go_ret
    exact ⟨rfl, hb1⟩
  | false =>
    obtain ⟨k, rfl⟩ : ∃ k : Nat, z = k := by
      rcases hz with ⟨_, h1⟩ | ⟨k, h2, _⟩
      · cases h1
      · exact ⟨k, h2⟩
    have hz0 : (0 : Int) ≤ (k : Nat) := by omega
    clear hz
    go_ret
    exact ⟨by simp, hb1⟩
set_option maxHeartbeats 1000000 in
theorem part_c (p : CP) (u : Value) (w : World) (h : TkS w u p.ts) {v : Bool} (hv : partB p = v) :
    Calls Try.prog 27 #[.agg #[.int .i64 p.per, .int .i64 p.bud, u]] w fun e w' => e = .returned (.bool v) ∧ Below w.heap.size w w' := by
  obtain ⟨⟨A, c, rfl, hc, hA, hT⟩, hsm⟩ := h
  have HB : Hid (Below w.heap.size w (w.alloc (.cells #[.int .i64 p.per, .int .i64 p.bud, .slice A p.ts.length c] 41))) := (Below.refl _ _).alloc (Nat.le_refl _) _
  have hk := Blk.new w 41 #[.int .i64 p.per, .int .i64 p.bud, .slice A p.ts.length c]
  have HC := Lib.hid (fun (v : Bool) (hv : p.ts.all (fun t => taskB t p.bud) = v) => con_tasks A c p.ts w.heap.size p.bud _ (hT.below HB.out) (Nat.le_trans hsm (by decide)) ⟨(hk.cell 1).trans rfl, hk.lt⟩ hv)
  unfold pmF at HC
  clear hk hT hc hA
  cases h1 : wi p.per 1 64 with
  | false =>
    have HV : Hid (v = false) := by show v = false; rw [← hv]; unfold partB; simp [h1]
    clear hv
    go_enter Try.func27, Try.ntmps27
    go_wp2_with (first | (go_at_call 31; with_reducible refine (within_c _ _ _ _).mono ?_; rintro e w9 ⟨rfl, rfl⟩))
    go_ret
    exact ⟨by rw [HV.out]; rfl, HB.out⟩
  | true =>
    cases h2 : wi p.bud 1 p.per with
    | false =>
      have HV : Hid (v = false) := by show v = false; rw [← hv]; unfold partB; simp [h1, h2]
      clear hv
      go_enter Try.func27, Try.ntmps27
      go_wp2_with (first | (go_at_call 31; with_reducible refine (within_c _ _ _ _).mono ?_; rintro e w9 ⟨rfl, rfl⟩))
      go_ret
      exact ⟨by rw [HV.out]; rfl, HB.out⟩
    | true =>
      by_cases hl : (4 : Int) < (p.ts.length : Nat)
      · have hl2 : ¬ p.ts.length ≤ 4 := by omega
        have HV : Hid (v = false) := by show v = false; rw [← hv]; unfold partB; simp [h1, h2, hl2]
        clear hv
        go_enter Try.func27, Try.ntmps27
        go_wp2_with (first | (go_at_call 31; with_reducible refine (within_c _ _ _ _).mono ?_; rintro e w9 ⟨rfl, rfl⟩))
        go_ret
        exact ⟨by rw [HV.out]; rfl, HB.out⟩
      · have hl2 : p.ts.length ≤ 4 := by omega
        cases h3 : p.ts.all fun t => taskB t p.bud with
        | false =>
          have HV : Hid (v = false) := by show v = false; rw [← hv]; unfold partB; simp [h1, h2, hl2, h3]
          clear hv
          go_enter Try.func27, Try.ntmps27
          go_wp2_with (first | (go_at_call 31; with_reducible refine (within_c _ _ _ _).mono ?_; rintro e w9 ⟨rfl, rfl⟩) | (go_at_call 46; with_reducible refine (HC.out _ h3).mono ?_; rintro e w1 ⟨rfl, hb1⟩))
          go_ret
          exact ⟨by rw [HV.out]; rfl, below_lift HB.out hb1 HB.out.size⟩
        | true =>
          have HV : Hid (v = true) := by show v = true; rw [← hv]; unfold partB; simp [h1, h2, hl2, h3]
          clear hv
          go_enter Try.func27, Try.ntmps27
          go_wp2_with (first | (go_at_call 31; with_reducible refine (within_c _ _ _ _).mono ?_; rintro e w9 ⟨rfl, rfl⟩) | (go_at_call 46; with_reducible refine (HC.out _ h3).mono ?_; rintro e w1 ⟨rfl, hb1⟩))
          go_ret
          exact ⟨by rw [HV.out]; rfl, below_lift HB.out hb1 HB.out.size⟩
theorem chk1_c (p : CP) (u : Value) (w : World) (h : TkS w u p.ts) {v : Bool} (hv : partB p = v) :
    Calls Try.prog 26 #[.agg #[.int .i64 p.per, .int .i64 p.bud, u]] w fun e w' => e = .returned (.bool (!v)) ∧ Below w.heap.size w w' := by
  have HB : Hid (Below w.heap.size w (w.alloc (.cells #[.int .i64 p.per, .int .i64 p.bud, u] 41))) := (Below.refl _ _).alloc (Nat.le_refl _) _
  have HT := Lib.hid (part_c p u _ (h.below HB.out) hv)
  obtain ⟨⟨A, c, rfl, _⟩, _⟩ := h
  clear hv
  go_enter Try.func26, Try.ntmps26
  go_wp2_with (go_at_call 27; with_reducible refine HT.out.mono ?_; rintro e w1 ⟨rfl, hb1⟩)
  go_ret
  exact ⟨rfl, below_lift HB.out hb1 HB.out.size⟩
theorem chk2_c (q : Nat) (t : PV) (A : Option Addr) (n c : Nat) (w : World) (h : w.cell? ⟨q, 0, none⟩ = some (.slice A n c)) (hq : q < w.heap.size) (hn : n ≤ 17592186044416) {v : Bool} (hv : portB t n = v) :
    Calls Try.prog 29 #[.agg #[.int .i64 t.k, .int .i64 t.f, .int .i64 t.t, .int .i64 t.s, .int .i64 t.d, .int .i64 t.a], .pointer (some ⟨q, 0, none⟩)] w fun e w' => e = .returned (.bool (!v)) ∧ Below w.heap.size w w' := by
  have HB : Hid (Below w.heap.size w (w.alloc (.cells #[.int .i64 t.k, .int .i64 t.f, .int .i64 t.t, .int .i64 t.s, .int .i64 t.d, .int .i64 t.a] 48))) := (Below.refl _ _).alloc (Nat.le_refl _) _
  have HT := Lib.hid (fun W => port_c t n hn W hv)
  have hne : ¬ q = w.heap.size := by omega
  clear hv
  go_enter Try.func29, Try.ntmps29
  go_wp2_with (go_at_call 30; with_reducible refine (HT.out _).mono ?_; rintro e w1 ⟨rfl, hb1⟩)
  go_ret
  exact ⟨rfl, below_lift HB.out hb1 HB.out.size⟩
theorem idx_parts (A : Option Addr) (c : Nat) (L : List CP) (w : World) (h : CpsAt w A L) (hm : L.length ≤ 17592186044416) :
    Calls Try.prog 45 #[.slice A L.length c, c1F] w fun e w' => ∃ z, e = .returned (.int .i64 z) ∧ IdxB L partB z ∧ Below w.heap.size w w' := by
  have HR := Lib.hid h
  clear h
  unfold c1F
  go_enter Try.func45, Try.ntmps45
  go_wp2
  go_loopw [8] (fun x wr => ∃ k : Nat, x = .int .i64 k ∧ Hid (k ≤ L.length ∧ (L.take k).all partB = true) ∧ Below w.heap.size w wr) (fun x _ => L.length - (intOf x).toNat)
  case atStart => exact ⟨0, rfl, Lib.hid ⟨Nat.zero_le _, by simp⟩, Below.refl _ _⟩
  case round =>
    obtain ⟨k, rfl, HK, hB⟩ := hrel
    by_cases hlt : k < L.length
    · obtain ⟨t, hx⟩ : ∃ t, L[k]? = some t := ⟨_, List.getElem?_eq_getElem hlt⟩
      obtain ⟨b, off, rfl, hbl, hc⟩ := (HR.out.below hB) (by intro e; rw [e] at hx; cases hx)
      obtain ⟨q0, q1, v, q2, hS⟩ := hc k t hx
      have HS := Lib.hid hS
      clear hS
      have hk1 : (k : Int) < (L.length : Int) := by omega
      have hw : wrap64 ((k : Int) + 1) = ((k + 1 : Nat) : Int) := by rw [IntWalk.wrap64_in _ (by omega)]; omega
      have HX := Lib.hid hx
      have HBB := Lib.hid hB
      clear hx hc hB
      cases hP : partB t with
      | true =>
        have HP := Lib.hid hP
        clear hP
        go_wp2_with (go_at_call 26; with_reducible refine (chk1_c t v _ HS.out HP.out).mono ?_; rintro e w1 ⟨rfl, hb1⟩)
        go_roundw
        case rel => exact ⟨k + 1, rfl, Lib.hid ⟨by omega, all_succ HK.out.2 HX.out HP.out⟩, below_lift HBB.out hb1 HBB.out.size⟩
        case measure => simp [intOf]; omega
      | false =>
        have HP := Lib.hid hP
        clear hP
        go_wp2_with (go_at_call 26; with_reducible refine (chk1_c t v _ HS.out HP.out).mono ?_; rintro e w1 ⟨rfl, hb1⟩)
        go_ret
        exact ⟨_, rfl, .inr ⟨k, rfl, all_not HX.out HP.out⟩, below_lift HBB.out hb1 HBB.out.size⟩
    · have hk1 : ¬ (k : Int) < (L.length : Int) := by omega
      go_wp2
      go_ret
      exact ⟨_, rfl, .inl ⟨rfl, all_end HK.out.2 (by omega)⟩, hB⟩
theorem con_parts (A : Option Addr) (c : Nat) (L : List CP) (w : World) (h : CpsAt w A L) (hm : L.length ≤ 17592186044416) {v : Bool} (hv : L.all partB = v) :
    Calls Try.prog 25 #[.slice A L.length c, c1F] w fun e w' => e = .returned (.bool (!v)) ∧ Below w.heap.size w w' := by
  have hi := idx_parts A c L w h hm 
  rw [show IdxB L partB = fun z : Int => (z = -1 ∧ v = true) ∨ ∃ k : Nat, z = k ∧ v = false by unfold IdxB; rw [hv]] at hi
  have HI := Lib.hid hi
  clear h hv hi
  go_enter Try.func25, Try.ntmps25
  go_wp2_with (go_at_call 45; with_reducible refine HI.out.mono ?_; rintro e w1 ⟨z, rfl, hz, hb1⟩)
  cases v with
  | true =>
    obtain rfl : z = -1 := by
      rcases hz with ⟨h1, _⟩ | ⟨_, _, h2⟩
      · exact h1
      · cases h2
    clear hz
    go_ret
    exact ⟨rfl, hb1⟩
  | false =>
    obtain ⟨k, rfl⟩ : ∃ k : Nat, z = k := by
      rcases hz with ⟨_, h1⟩ | ⟨k, h2, _⟩
      · cases h1
      · exact ⟨k, h2⟩
    have hz0 : (0 : Int) ≤ (k : Nat) := by omega
    clear hz
    go_ret
    exact ⟨by simp, hb1⟩
theorem idx_ports (A : Option Addr) (c : Nat) (L : List PV) (q : Nat) (pA : Option Addr) (n pc : Nat) (w : World) (h : PtsAt w A L) (hm : L.length ≤ 17592186044416) (hq : w.cell? ⟨q, 0, none⟩ = some (.slice pA n pc) ∧ q < w.heap.size ∧ n ≤ 17592186044416) :
    Calls Try.prog 49 #[.slice A L.length c, c2F q] w fun e w' => ∃ z, e = .returned (.int .i64 z) ∧ IdxB L (fun t => portB t n) z ∧ Below w.heap.size w w' := by
  have HR := Lib.hid h
  clear h
  have HQ := Lib.hid hq
  clear hq
  unfold c2F
  go_enter Try.func49, Try.ntmps49
  go_wp2
  go_loopw [8] (fun x wr => ∃ k : Nat, x = .int .i64 k ∧ Hid (k ≤ L.length ∧ (L.take k).all (fun t => portB t n) = true) ∧ Below w.heap.size w wr) (fun x _ => L.length - (intOf x).toNat)
  case atStart => exact ⟨0, rfl, Lib.hid ⟨Nat.zero_le _, by simp⟩, Below.refl _ _⟩
  case round =>
    obtain ⟨k, rfl, HK, hB⟩ := hrel
    by_cases hlt : k < L.length
    · obtain ⟨t, hx⟩ : ∃ t, L[k]? = some t := ⟨_, List.getElem?_eq_getElem hlt⟩
      obtain ⟨b, off, rfl, hbl, hc⟩ := (HR.out.below hB) (by intro e; rw [e] at hx; cases hx)
      obtain ⟨q0, q1, q2, q3, q4, q5⟩ := hc k t hx
      have hq' : wr.cell? ⟨q, 0, none⟩ = some (.slice pA n pc) := (hB.cell (p := ⟨q, 0, none⟩) HQ.out.2.1).trans HQ.out.1
      have hql : q < wr.heap.size := Nat.lt_of_lt_of_le HQ.out.2.1 hB.size
      have HQ' := Lib.hid hq'
      clear hq'
      have hk1 : (k : Int) < (L.length : Int) := by omega
      have hw : wrap64 ((k : Int) + 1) = ((k + 1 : Nat) : Int) := by rw [IntWalk.wrap64_in _ (by omega)]; omega
      have HX := Lib.hid hx
      have HBB := Lib.hid hB
      clear hx hc hB
      cases hP : (fun t => portB t n) t with
      | true =>
        have HP := Lib.hid hP
        clear hP
        go_wp2_with (go_at_call 29; with_reducible refine (chk2_c q t pA n pc _ HQ'.out hql HQ.out.2.2 HP.out).mono ?_; rintro e w1 ⟨rfl, hb1⟩)
        go_roundw
        case rel => exact ⟨k + 1, rfl, Lib.hid ⟨by omega, all_succ HK.out.2 HX.out HP.out⟩, below_lift HBB.out hb1 HBB.out.size⟩
        case measure => simp [intOf]; omega
      | false =>
        have HP := Lib.hid hP
        clear hP
        go_wp2_with (go_at_call 29; with_reducible refine (chk2_c q t pA n pc _ HQ'.out hql HQ.out.2.2 HP.out).mono ?_; rintro e w1 ⟨rfl, hb1⟩)
        go_ret
        exact ⟨_, rfl, .inr ⟨k, rfl, all_not HX.out HP.out⟩, below_lift HBB.out hb1 HBB.out.size⟩
    · have hk1 : ¬ (k : Int) < (L.length : Int) := by omega
      go_wp2
      go_ret
      exact ⟨_, rfl, .inl ⟨rfl, all_end HK.out.2 (by omega)⟩, hB⟩
theorem con_ports (A : Option Addr) (c : Nat) (L : List PV) (q : Nat) (pA : Option Addr) (n pc : Nat) (w : World) (h : PtsAt w A L) (hm : L.length ≤ 17592186044416) (hq : w.cell? ⟨q, 0, none⟩ = some (.slice pA n pc) ∧ q < w.heap.size ∧ n ≤ 17592186044416) {v : Bool} (hv : L.all (fun t => portB t n) = v) :
    Calls Try.prog 28 #[.slice A L.length c, c2F q] w fun e w' => e = .returned (.bool (!v)) ∧ Below w.heap.size w w' := by
  have hi := idx_ports A c L q pA n pc w h hm hq
  rw [show IdxB L (fun t => portB t n) = fun z : Int => (z = -1 ∧ v = true) ∨ ∃ k : Nat, z = k ∧ v = false by unfold IdxB; rw [hv]] at hi
  have HI := Lib.hid hi
  clear h hv hi hq
  go_enter Try.func28, Try.ntmps28
  go_wp2_with (go_at_call 49; with_reducible refine HI.out.mono ?_; rintro e w1 ⟨z, rfl, hz, hb1⟩)
  cases v with
  | true =>
    obtain rfl : z = -1 := by
      rcases hz with ⟨h1, _⟩ | ⟨_, _, h2⟩
      · exact h1
      · cases h2
    clear hz
    go_ret
    exact ⟨rfl, hb1⟩
  | false =>
    obtain ⟨k, rfl⟩ : ∃ k : Nat, z = k := by
      rcases hz with ⟨_, h1⟩ | ⟨k, h2, _⟩
      · cases h1
      · exact ⟨k, h2⟩
    have hz0 : (0 : Int) ≤ (k : Nat) := by omega
    clear hz
    go_ret
    exact ⟨by simp, hb1⟩
end Go.Proofs.Ytekcokbpgpeepaa
