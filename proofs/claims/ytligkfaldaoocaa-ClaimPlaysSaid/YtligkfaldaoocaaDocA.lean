/- The document's claims in memory; the methods that only read. -/
import Derived.Test.YtligkfaldaoocaaClmF
import Derived.Deep.RegionLaw
namespace Go.Proofs.Ytligkfaldaoocaa
set_option linter.unusedVariables false
open Go.RowKit

def mCells (V : Nat → Value) (h : Nat → Bool) : Array Value := #[.slice none 0 0, V 0, V 1, V 2, V 3, .bool false, .bool (h 0), .bool (h 1), .bool (h 2), .bool (h 3)]
structure ClM (B : Nat) (w : World) (g : Nat) (V : Nat → Value) (S : CS) : Prop where
  blk : Blk w g 54 (mCells V S.h)
  gB : B ≤ g
  own : ∀ k, k < 4 → OwnI w B (V k) (S.l k)
  sep : ∀ i j b, i < 4 → j < 4 → i ≠ j → (V i).ownBlock = some b → (V j).ownBlock ≠ some b
  len : ∀ k, k < 4 → (S.l k).length ≤ 1000000
  held : ∀ k, k < 4 → S.h k = true → S.l k ≠ []
theorem mc_who (V : Nat → Value) (f : Nat → Bool) {k : Nat} (hk : k < 4) : (mCells V f)[1 + k]? = some (V k) := by
  rcases (by omega : k = 0 ∨ k = 1 ∨ k = 2 ∨ k = 3) with rfl | rfl | rfl | rfl <;> rfl
theorem mc_held (V : Nat → Value) (f : Nat → Bool) {k : Nat} (hk : k < 4) : (mCells V f)[6 + k]? = some (.bool (f k)) := by
  rcases (by omega : k = 0 ∨ k = 1 ∨ k = 2 ∨ k = 3) with rfl | rfl | rfl | rfl <;> rfl
theorem mc_put_who (V : Nat → Value) (f : Nat → Bool) {k : Nat} (hk : k < 4) (v : Value) : (mCells V f).setIfInBounds (1 + k) v = mCells (upd V k v) f := by
  rcases (by omega : k = 0 ∨ k = 1 ∨ k = 2 ∨ k = 3) with rfl | rfl | rfl | rfl <;> rfl
theorem mc_put_held (V : Nat → Value) (f : Nat → Bool) {k : Nat} (hk : k < 4) (x : Bool) : (mCells V f).setIfInBounds (6 + k) (.bool x) = mCells V (upd f k x) := by
  rcases (by omega : k = 0 ∨ k = 1 ∨ k = 2 ∨ k = 3) with rfl | rfl | rfl | rfl <;> rfl
section
variable {B g : Nat} {V : Nat → Value} {S : CS} {w0 w w' : World}
theorem ClM.below (h : ClM B w g V S) (k : Below w.heap.size w w') : ClM B w' g V S := ⟨h.blk.below k h.blk.lt, h.gB, fun i hi => (h.own i hi).below k, h.sep, h.len, h.held⟩
theorem ClM.keeps {F : Nat → Prop} (h : ClM B w g V S) (k : Keeps F w w') (hF : ∀ b, foot g V b → ¬ F b) : ClM B w' g V S :=
  ⟨k.blk h.blk (hF g (.inl rfl)), h.gB, fun i hi => (h.own i hi).keep fun b hb => k.block b ((h.own i hi).lt b hb).2.1 (hF b (.inr ⟨i, hi, hb⟩)), h.sep, h.len, h.held⟩
theorem ClM.hs (h : ClM B w g V S) : B ≤ w.heap.size := Nat.le_trans h.gB (Nat.le_of_lt h.blk.lt)
theorem ClM.footB (h : ClM B w g V S) : ∀ b, foot g V b → B ≤ b ∧ b < w.heap.size := by
  intro b hb
  rcases hb with rfl | ⟨i, hi, hb⟩
  · exact ⟨h.gB, h.blk.lt⟩
  · exact ⟨((h.own i hi).lt b hb).1, ((h.own i hi).lt b hb).2.1⟩
/-- Place K of lines and marks, 1 to 4. -/
theorem ClM.who (h : ClM B w g V S) {K : Nat} (h1 : 1 ≤ K) (h4 : K ≤ 4) : w.cell? ⟨g, K, none⟩ = some (V (K - 1)) := by
  have := (h.blk.cell (1 + (K - 1))).trans (mc_who V S.h (k := K - 1) (by omega))
  rwa [show 1 + (K - 1) = K by omega] at this
theorem ClM.hld (h : ClM B w g V S) {K : Nat} (h1 : 1 ≤ K) (h4 : K ≤ 4) : w.cell? ⟨g, 5 + K, none⟩ = some (.bool (S.h (K - 1))) := by
  have := (h.blk.cell (6 + (K - 1))).trans (mc_held V S.h (k := K - 1) (by omega))
  rwa [show 6 + (K - 1) = 5 + K by omega] at this
theorem ClM.put_held (h : ClM B w g V S) {k : Nat} (hk : k < 4) (x : Bool) (hx : x = true → S.l k ≠ []) :
    ClM B (w.setCell ⟨g, 6 + k, none⟩ (.bool x)) g V ⟨S.l, upd S.h k x⟩ ∧ Turn g V V w (w.setCell ⟨g, 6 + k, none⟩ (.bool x)) := by
  have hK : Keeps (fun b => b = g) w (w.setCell ⟨g, 6 + k, none⟩ (.bool x)) := Keeps.setCell (S := fun b => b = g) (Keeps.refl _ _) (.inl rfl) _
  have hb := h.blk.set_ (6 + k) (.bool x)
  rw [mc_put_held _ _ hk] at hb
  refine ⟨⟨hb, h.gB, fun i hi => (h.own i hi).keep fun b he => hK.block b ((h.own i hi).lt b he).2.1 ?_, h.sep, h.len, fun i hi hh => ?_⟩, hK.mono fun i hi => .inl hi, fun b hb => .inl hb⟩
  · rintro rfl
    obtain ⟨_, _, cur, hc⟩ := (h.own i hi).lt _ he
    exact Blk.ne_ hc h.blk (by decide) rfl
  · by_cases e : i = k
    · subst e
      exact hx (by simpa [upd] using hh)
    · exact h.held i hi (by simpa [upd, e] using hh)
theorem ClM.put_who (h : ClM B w g V S) {k : Nat} (hk : k < 4) {v : Value} {L : List Int} (hown : OwnI w' B v L) (hK : Keeps (fun b => (V k).ownBlock = some b) w w')
    (hv : ∀ b, v.ownBlock = some b → (V k).ownBlock = some b ∨ w.heap.size ≤ b) (hlen : L.length ≤ 1000000) (hheld : S.h k = true → L ≠ []) :
    ClM B (w'.setCell ⟨g, 1 + k, none⟩ v) g (upd V k v) ⟨upd S.l k L, S.h⟩ ∧ Turn g V (upd V k v) w (w'.setCell ⟨g, 1 + k, none⟩ v) := by
  have hg : (V k).ownBlock ≠ some g := by
    intro e
    obtain ⟨_, _, cur, hc⟩ := (h.own k hk).lt _ e
    exact Blk.ne_ hc h.blk (by decide) rfl
  have hb1 : Blk w' g 54 (mCells V S.h) := hK.blk h.blk hg
  have hb := hb1.set_ (1 + k) v
  rw [mc_put_who _ _ hk] at hb
  have hfar : ∀ i b, i < 4 → i ≠ k → (V i).ownBlock = some b → w'.heap[b]? = w.heap[b]? ∧ b ≠ g ∧ v.ownBlock ≠ some b := by
    intro i b hi hik he
    have hl := (h.own i hi).lt b he
    refine ⟨hK.block b hl.2.1 fun e => h.sep i k b hi hk hik he e, ?_, ?_⟩
    · rintro rfl
      obtain ⟨_, _, cur, hc⟩ := hl
      exact Blk.ne_ hc h.blk (by decide) rfl
    · intro e
      rcases hv b e with hv | hb'
      · exact h.sep i k b hi hk hik he hv
      · omega
  have hvg : ∀ b, v.ownBlock = some b → b ≠ g := by
    rintro b he rfl
    rcases hv _ he with hv | hb'
    · exact hg hv
    · have := h.blk.lt
      omega
  refine ⟨⟨hb, h.gB, fun i hi => ?_, fun i j b hi hj hij h1 h2 => ?_, fun i hi => ?_, fun i hi hh => ?_⟩, ?_, fun b hb => ?_⟩
  · by_cases e : i = k
    · subst e
      rw [upd_self]
      show OwnI _ B v (upd S.l i L i)
      rw [upd_self]
      exact hown.keep fun b he => Below.heap_setCell _ _ _ _ (hvg b he)
    · rw [upd_other _ _ e]
      show OwnI _ B (V i) (upd S.l k L i)
      rw [upd_other _ _ e]
      refine (h.own i hi).keep fun b he => ?_
      have := hfar i b hi e he
      exact (Below.heap_setCell _ _ _ _ this.2.1).trans this.1
  · by_cases e1 : i = k
    · subst e1
      rw [upd_self] at h1
      rw [upd_other _ _ (fun e => hij e.symm)] at h2
      exact (hfar j b hj (fun e => hij e.symm) h2).2.2 h1
    · rw [upd_other _ _ e1] at h1
      by_cases e2 : j = k
      · subst e2
        rw [upd_self] at h2
        exact (hfar i b hi e1 h1).2.2 h2
      · rw [upd_other _ _ e2] at h2
        exact h.sep i j b hi hj hij h1 h2
  · show (upd S.l k L i).length ≤ _
    by_cases e : i = k
    · subst e; rw [upd_self]; exact hlen
    · rw [upd_other _ _ e]; exact h.len i hi
  · show upd S.l k L i ≠ []
    by_cases e : i = k
    · subst e; rw [upd_self]; exact hheld hh
    · rw [upd_other _ _ e]; exact h.held i hi hh
  · exact Keeps.setCell (S := foot g V) (hK.mono fun i hi => .inr ⟨k, hk, hi⟩) (.inl (.inl rfl)) _
  · rcases hb with rfl | ⟨i, hi, he⟩
    · exact .inl (.inl rfl)
    · by_cases e : i = k
      · subst e
        rw [upd_self] at he
        rcases hv _ he with hv | hb'
        · exact .inl (.inr ⟨i, hi, hv⟩)
        · exact .inr hb'
      · rw [upd_other _ _ e] at he
        exact .inl (.inr ⟨i, hi, he⟩)
end
theorem ret_two {n m : Int} {b c : Bool} (h : n = m) (k : b = c) : Ending.returned (.tuple #[.int .i64 n, .bool b]) = .returned (.tuple #[.int .i64 m, .bool c]) := by rw [h, k]
theorem there_c (p r : Int) (w : World) : Calls Try.prog 26 #[.int .i64 p, .int .i64 r] w fun e w' => e = .returned (.bool (decide (okPR p r))) ∧ w = w' := by
  by_cases h1 : 0 ≤ p
  · by_cases h2 : p < 4
    · by_cases h3 : 1 ≤ r
      · by_cases h4 : r ≤ 4
        · have HD : Hid (decide (okPR p r) = true) := decide_eq_true ⟨h1, h2, h3, h4⟩
          go_enter Try.func26, Try.ntmps26
          go_wp2
          go_ret
          exact ⟨ret_bool HD.out.symm, rfl⟩
        · have HD : Hid (decide (okPR p r) = false) := decide_eq_false fun h => h4 h.2.2.2
          go_enter Try.func26, Try.ntmps26
          go_wp2
          go_ret
          exact ⟨ret_bool HD.out.symm, rfl⟩
      · have HD : Hid (decide (okPR p r) = false) := decide_eq_false fun h => h3 h.2.2.1
        go_enter Try.func26, Try.ntmps26
        go_wp2
        go_ret
        exact ⟨ret_bool HD.out.symm, rfl⟩
    · have HD : Hid (decide (okPR p r) = false) := decide_eq_false fun h => h2 h.2.1
      go_enter Try.func26, Try.ntmps26
      go_wp2
      go_ret
      exact ⟨ret_bool HD.out.symm, rfl⟩
  · have HD : Hid (decide (okPR p r) = false) := decide_eq_false fun h => h1 h.1
    go_enter Try.func26, Try.ntmps26
    go_wp2
    go_ret
    exact ⟨ret_bool HD.out.symm, rfl⟩
theorem there_v {p r : Int} {b : Bool} (h : decide (okPR p r) = b) (w : World) : Calls Try.prog 26 #[.int .i64 p, .int .i64 r] w fun e w' => e = .returned (.bool b) ∧ w = w' := h ▸ there_c p r w
/-- A line at place K: what is read of it. -/
theorem ClM.line {B g : Nat} {V : Nat → Value} {S : CS} {w : World} (h : ClM B w g V S) {K : Nat} (h1 : 1 ≤ K) (h4 : K ≤ 4) : ∃ A c, V (K - 1) = .slice A (S.l (K - 1)).length c ∧ w.cell? ⟨g, K, none⟩ = some (.slice A (S.l (K - 1)).length c) ∧ IntsR w A (S.l (K - 1)) ∧ (A = none → c = 0) ∧ (S.l (K - 1)).length ≤ c ∧ (S.l (K - 1)).length ≤ 1000000 := by
  obtain ⟨A, c, hv, k1, k2, k3, k4, k5⟩ := (h.own (K - 1) (by omega)).form
  have cw := h.who h1 h4
  rw [hv] at cw
  exact ⟨A, c, hv, cw, k3, k2, k1, h.len _ (by omega)⟩
theorem holds_c {B g : Nat} {V : Nat → Value} {S : CS} {w : World} (h : ClM B w g V S) {K : Nat} (h1 : 1 ≤ K) (h4 : K ≤ 4) (p : Int) :
    Calls Try.prog 28 #[.pointer (some ⟨g, 0, none⟩), .int .i64 p, .int .i64 (K : Nat)] w fun e w' => e = .returned (.bool (S.h (K - 1) && isFirst (S.l (K - 1)) p)) ∧ w = w' := by
  have ch := h.hld h1 h4
  obtain ⟨A, c, hv, cw, hR, -⟩ := h.line h1 h4
  cases hh : S.h (K - 1) with
  | false =>
    rw [hh] at ch
    clear hh hv cw hR h
    go_enter Try.func28, Try.ntmps28
    go_wp2
    go_ret
    exact ⟨by simp, rfl⟩
  | true =>
    rw [hh] at ch
    have hne := h.held _ (by omega) hh
    obtain ⟨x, L, hL⟩ : ∃ x L, S.l (K - 1) = x :: L := by
      cases hl : S.l (K - 1) with
      | nil => exact absurd hl hne
      | cons x L => exact ⟨x, L, rfl⟩
    rw [hL] at hR cw
    obtain ⟨b, off, rfl, hb, hx⟩ := hR (by simp)
    have o0 : w.cell? ⟨b, off, none⟩ = some (.int .i64 x) := hx 0 x rfl
    have hpos : 0 < (x :: L).length := by simp
    have HI : Hid (isFirst (S.l (K - 1)) p = (x == p)) := by show isFirst (S.l (K - 1)) p = _; rw [hL]; simp [isFirst]
    obtain ⟨n0, hn0⟩ : ∃ n0, (x :: L).length = n0 := ⟨_, rfl⟩
    rw [hn0] at cw hpos
    clear hh hv hR h hne hL hx hn0
    go_enter Try.func28, Try.ntmps28
    go_wp2
    go_ret
    exact ⟨ret_bool (by rw [HI.out]; simp), rfl⟩
theorem dholder_c (B g : Nat) (V : Nat → Value) (S : CS) (r : Int) (w : World) (h : ClM B w g V S) :
    Calls Try.prog 32 #[.pointer (some ⟨g, 0, none⟩), .int .i64 r] w fun e w' => e = .returned (.tuple #[.int .i64 (holdN S r), .bool (holdB S r)]) ∧ w = w' := by
  by_cases hr : 1 ≤ r ∧ r ≤ 4
  · obtain ⟨K, rfl⟩ : ∃ K : Nat, r = K := ⟨r.toNat, by omega⟩
    have h1 : 1 ≤ K := by omega
    have h4 : K ≤ 4 := by omega
    have hT := there_v (p := 0) (r := (K : Int)) (decide_eq_true ⟨by omega, by omega, hr.1, hr.2⟩)
    have ch := h.hld h1 h4
    obtain ⟨A, c, hv, cw, hR, -⟩ := h.line h1 h4
    cases hh : S.h (K - 1) with
    | false =>
      rw [hh] at ch
      have HN : Hid (holdN S (K : Int) = 0 ∧ holdB S (K : Int) = false) := ⟨if_neg (by rw [Int.toNat_natCast, hh]; simp), by unfold holdB; rw [Int.toNat_natCast, hh]; simp⟩
      clear hh hv cw hR h hr
      go_enter Try.func32, Try.ntmps32
      go_wp2_with (go_at_call 26; with_reducible refine (hT _).mono ?_; rintro e w1 ⟨rfl, rfl⟩)
      go_ret2
      exact ⟨ret_two HN.out.1.symm HN.out.2.symm, rfl⟩
    | true =>
      rw [hh] at ch
      have hne := h.held _ (by omega) hh
      obtain ⟨x, L, hL⟩ : ∃ x L, S.l (K - 1) = x :: L := by
        cases hl : S.l (K - 1) with
        | nil => exact absurd hl hne
        | cons x L => exact ⟨x, L, rfl⟩
      have HN : Hid (holdN S (K : Int) = x ∧ holdB S (K : Int) = true) := ⟨by unfold holdN; rw [Int.toNat_natCast, if_pos ⟨hr.1, hr.2, hh⟩, hL]; rfl, by unfold holdB; rw [Int.toNat_natCast, hh]; simp; omega⟩
      rw [hL] at hR cw
      obtain ⟨b, off, rfl, hb, hx⟩ := hR (by simp)
      have o0 : w.cell? ⟨b, off, none⟩ = some (.int .i64 x) := hx 0 x rfl
      have hpos : 0 < (x :: L).length := by simp
      obtain ⟨n0, hn0⟩ : ∃ n0, (x :: L).length = n0 := ⟨_, rfl⟩
      rw [hn0] at cw hpos
      clear hh hv hR h hne hL hx hn0 hr
      go_enter Try.func32, Try.ntmps32
      go_wp2_with (go_at_call 26; with_reducible refine (hT _).mono ?_; rintro e w1 ⟨rfl, rfl⟩)
      go_ret2
      exact ⟨ret_two HN.out.1.symm HN.out.2.symm, rfl⟩
  · have hT := there_v (p := 0) (r := r) (decide_eq_false fun h => hr ⟨h.2.2.1, h.2.2.2⟩)
    have HN : Hid (holdN S r = 0 ∧ holdB S r = false) := ⟨if_neg fun h => hr ⟨h.1, h.2.1⟩, by unfold holdB; rw [decide_eq_false hr]; rfl⟩
    clear h hr
    go_enter Try.func32, Try.ntmps32
    go_wp2_with (go_at_call 26; with_reducible refine (hT _).mono ?_; rintro e w1 ⟨rfl, rfl⟩)
    go_ret2
    exact ⟨ret_two HN.out.1.symm HN.out.2.symm, rfl⟩
theorem dline_c (B g : Nat) (V : Nat → Value) (S : CS) (r : Int) (w : World) (h : ClM B w g V S) :
    Calls Try.prog 34 #[.pointer (some ⟨g, 0, none⟩), .int .i64 r] w fun e w' => ∃ v, e = .returned v ∧ OwnI w' w.heap.size v (lineL S r) ∧ Below w.heap.size w w' := by
  by_cases hr : 1 ≤ r ∧ r ≤ 4
  · obtain ⟨K, rfl⟩ : ∃ K : Nat, r = K := ⟨r.toNat, by omega⟩
    have h1 : 1 ≤ K := by omega
    have h4 : K ≤ 4 := by omega
    have hT := there_v (p := 0) (r := (K : Int)) (decide_eq_true ⟨by omega, by omega, hr.1, hr.2⟩)
    obtain ⟨A, c, hv, cw, hR, hA, hc, hl⟩ := h.line h1 h4
    rw [show lineL S (K : Int) = S.l (K - 1) by unfold lineL; rw [if_pos hr, Int.toNat_natCast]]
    have HC := Lib.hid (copyints_c A _ c (S.l (K - 1)) w (by omega) ⟨rfl, hR⟩ hA)
    clear hv hR hA hc hl h hr
    go_enter Try.func34, Try.ntmps34
    go_wp2_with (first
      | (go_at_call 26; with_reducible refine (hT _).mono ?_; rintro e w1 ⟨rfl, rfl⟩)
      | (go_at_call 39; with_reducible refine HC.out.mono ?_; rintro e w1 ⟨v, rfl, hv, hB⟩))
    go_ret
    exact ⟨v, rfl, hv, hB⟩
  · have hT := there_v (p := 0) (r := r) (decide_eq_false fun h => hr ⟨h.2.2.1, h.2.2.2⟩)
    rw [show lineL S r = [] from if_neg hr]
    clear h hr
    go_enter Try.func34, Try.ntmps34
    go_wp2_with (go_at_call 26; with_reducible refine (hT _).mono ?_; rintro e w1 ⟨rfl, rfl⟩)
    go_ret
    exact ⟨_, rfl, OwnI.nil, Below.refl _ _⟩
theorem dnew_c (w : World) : Calls Try.prog 8 #[] w fun e w' => e = .returned (.pointer (some ⟨w.heap.size, 0, none⟩)) ∧ ClM w.heap.size w' w.heap.size noV noC ∧ Below w.heap.size w w' := by
  go_enter Try.func8, Try.ntmps8
  go_wp2
  go_ret
  refine ⟨rfl, ⟨?_, Nat.le_refl _, fun k hk => OwnI.nil, fun i j b _ _ _ h => by simp [noV, Value.ownBlock] at h, fun k hk => by simp [noC], fun k hk h => by simp [noC] at h⟩, (Below.refl _ _).alloc (Nat.le_refl _) _⟩
  exact Blk.new _ _ _
set_option maxHeartbeats 400000 in
theorem din_c (B g : Nat) (V : Nat → Value) (S : CS) (p : Int) (w : World) (h : ClM B w g V S) :
    Calls Try.prog 27 #[.pointer (some ⟨g, 0, none⟩), .int .i64 p] w fun e w' => e = .returned (inV (inE S p)) ∧ w = w' := by
  have HH := Lib.hid h
  have HE : Hid (inE S p = inFrom S p (5 - 1) (1 - 1)) := (show inE S p = _ from rfl)
  clear h
  go_enter Try.func27, Try.ntmps27
  go_wp2_with fail
  go_loopw [6] (fun x wr => ∃ K : Nat, x = .int .i64 K ∧ Hid (1 ≤ K ∧ K ≤ 5 ∧ inE S p = inFrom S p (5 - K) (K - 1)) ∧ Hid (w = wr)) (fun x _ => 5 - (intOf x).toNat)
  case atStart => exact ⟨1, rfl, Lib.hid ⟨by omega, by omega, HE.out⟩, Lib.hid rfl⟩
  case round =>
    obtain ⟨K, rfl, HK, hww⟩ := hrel
    obtain rfl := hww.out
    by_cases hk : (K : Int) ≤ 4
    · have h1 := HK.out.1
      obtain ⟨A, c, hv, cw, hR, hA, hc, hl⟩ := HH.out.line h1 (by omega)
      have HS := Lib.hid (inFrom_step S p (4 - K) (K - 1))
      rw [show 4 - K + 1 = 5 - K by omega, show K - 1 + 1 = K + 1 - 1 by omega] at HS
      have HR := Lib.hid hR
      clear hv hA hc hR
      go_wp2_with fail
      go_loopw [7] (fun x wr => ∃ i : Nat, x = .int .i64 i ∧ i ≤ (S.l (K - 1)).length ∧ Hid (p ∉ (S.l (K - 1)).take i) ∧ Hid (w = wr)) (fun x _ => (S.l (K - 1)).length - (intOf x).toNat)
      case atStart => exact ⟨0, rfl, by omega, Lib.hid (by simp), Lib.hid (by trivial)⟩
      case round =>
        obtain ⟨i, rfl, hi, HN, hww⟩ := hrel
        obtain rfl := hww.out
        by_cases hlt : (i : Int) < ((S.l (K - 1)).length : Nat)
        · obtain ⟨x, hx⟩ : ∃ x, (S.l (K - 1))[i]? = some x := ⟨_, List.getElem?_eq_getElem (by omega)⟩
          obtain ⟨b, off, rfl, hb, hxx⟩ := HR.out (by intro e; rw [e] at hx; cases hx)
          have o1 := hxx i x hx
          have HX := Lib.hid hx
          clear hx hxx
          by_cases he : x = p
          · have he2 : (x == p) = true := by simp [he]
            have HEE := Lib.hid he
            clear he
            go_wp2_with fail
            go_ret2
            refine ⟨?_, rfl⟩
            rw [HK.out.2.2, HS.out, if_pos (by rw [← HEE.out]; exact List.mem_of_getElem? HX.out)]
            exact ret_two (n := (K : Int)) (m := ((K - 1 : Nat) : Int) + 1) (b := true) (by omega) rfl
          · have he2 : (x == p) = false := by simp [he]
            have HEE := Lib.hid he
            clear he
            go_wp2_with fail
            go_roundw
            case rel => exact ⟨i + 1, rfl, by omega, Lib.hid (notin_succ HN.out HX.out (fun e => HEE.out e.symm)), Lib.hid (by trivial)⟩
            case measure => simp [intOf]; omega
        · obtain rfl : (S.l (K - 1)).length = i := by omega
          have hN : p ∉ S.l (K - 1) := by rw [← List.take_length (l := S.l (K - 1))]; exact HN.out
          have HNN := Lib.hid hN
          clear hN
          go_wp2_with fail
          go_roundw
          case rel => exact ⟨K + 1, rfl, Lib.hid ⟨by omega, by omega, by rw [HK.out.2.2, HS.out, if_neg HNN.out, show 5 - (K + 1) = 4 - K by omega]⟩, Lib.hid (by trivial)⟩
          case measure => simp [intOf]; omega
    · obtain rfl : K = 5 := by have := HK.out.2.1; omega
      go_wp2
      go_ret2
      exact ⟨by rw [HK.out.2.2]; rfl, rfl⟩
end Go.Proofs.Ytligkfaldaoocaa
