/- The program's row of acts as an object in memory: none, runs, on, Next, Did, Ran, Done, Left. -/
import Derived.Test.YtomadlopljfcmaaActS
import Derived.Deep.RegionHeld3
import Derived.Deep.DeepCutAuto
import Derived.BigRegion
import Derived.ChangeAlike
namespace Go.Proofs.Ytomadlopljfcmaa
set_option linter.unusedVariables false
open Go.RowKit

/-- The cells of one act. -/
def OpAt (w : World) (b o : Nat) (x : OpV) : Prop :=
  w.cell? ⟨b, o, none⟩ = some (.int .i64 x.k) ∧ w.cell? ⟨b, o + 1, none⟩ = some (.int .i64 x.n) ∧ w.cell? ⟨b, o + 2, none⟩ = some (.string x.s)
theorem OpAt.keep {w w' : World} {b o : Nat} {x : OpV} (h : OpAt w b o x) (hb : ∀ p : Addr, p.block = b → w'.cell? p = w.cell? p) : OpAt w' b o x :=
  ⟨(hb _ rfl).trans h.1, (hb _ rfl).trans h.2.1, (hb _ rfl).trans h.2.2⟩
/-- Block b is one of acts, not frozen, and holds the list from off on. -/
def OpsIn (w : World) (b off : Nat) (L : List OpV) : Prop := (∃ C, Blk w b 29 C) ∧ ∀ i x, L[i]? = some x → OpAt w b (off + i * 3) x
theorem OpsIn.keep {w w' : World} {b off : Nat} {L : List OpV} (h : OpsIn w b off L) (hb : w'.heap[b]? = w.heap[b]?) : OpsIn w' b off L := by
  obtain ⟨⟨C, hC⟩, h2⟩ := h
  exact ⟨⟨C, hb.trans hC⟩, fun i x hi => (h2 i x hi).keep fun p hp => World.cell?_of_block (by rw [hp]; exact hb)⟩
/-- The program's row: the struct lies in block g, the acts in block b. -/
def RowA (w : World) (g b : Nat) (L : List OpV) : Prop :=
  ∃ A c off, Blk w g 74 #[.slice A L.length c, .bool true] ∧ L.length ≤ c ∧ (L ≠ [] → A = some ⟨b, off, none⟩ ∧ OpsIn w b off L) ∧ (A = none → c = 0)
theorem RowA.keep {w w' : World} {g b : Nat} {L : List OpV} (h : RowA w g b L) (hg : w'.heap[g]? = w.heap[g]?) (hb : w'.heap[b]? = w.heap[b]?) : RowA w' g b L := by
  obtain ⟨A, c, off, h1, h2, h3, h0⟩ := h
  exact ⟨A, c, off, hg.trans h1, h2, fun hL => ⟨(h3 hL).1, (h3 hL).2.keep hb⟩, h0⟩

def didE : List OpV → Int
  | [] => 250
  | x :: _ => if x.k = 1 then 250 else 0
def didL : List OpV → List OpV
  | [] => []
  | x :: L => if x.k = 1 then x :: L else L
def ranE : List OpV → Int
  | [] => 250
  | x :: _ => if x.k = 1 then 0 else 250
def ranL : List OpV → List OpV
  | [] => []
  | x :: L => if x.k = 1 then (if x.n - 1 = 0 then L else { x with n := x.n - 1 } :: L) else x :: L
def leftOf : List OpV → Int
  | [] => 0
  | x :: L => (if x.k = 1 then x.n else 0) + leftOf L
def emptyOp : OpV := ⟨0, 0, ByteArray.empty⟩
def two (g b : Nat) : Nat → Prop := fun k => k = g ∨ k = b

theorem none_a (g : Nat) (w : World) (h : w.cell? ⟨g, 1, none⟩ = some (.bool true)) :
    Calls Try.prog 50 #[.pointer (some ⟨g, 0, none⟩)] w fun e w' => e = .returned (.bool false) ∧ w = w' := by
  go_enter Try.func50, Try.ntmps50
  go_wp2
  go_ret
  exact ⟨rfl, rfl⟩
theorem runs_nil (g : Nat) (A : Option Addr) (c : Nat) (w : World) (h : w.cell? ⟨g, 0, none⟩ = some (.slice A 0 c)) :
    Calls Try.prog 51 #[.pointer (some ⟨g, 0, none⟩)] w fun e w' => e = .returned (.bool false) ∧ w = w' := by
  go_enter Try.func51, Try.ntmps51
  go_wp2
  go_ret
  exact ⟨rfl, rfl⟩
theorem runs_some (g b off n c : Nat) (k : Int) (w : World) (hn : 0 < n) (h : w.cell? ⟨g, 0, none⟩ = some (.slice (some ⟨b, off, none⟩) n c)) (hk : w.cell? ⟨b, off, none⟩ = some (.int .i64 k)) :
    Calls Try.prog 51 #[.pointer (some ⟨g, 0, none⟩)] w fun e w' => e = .returned (.bool (k == 1)) ∧ w = w' := by
  have hn' : (0 : Int) < n := by omega
  go_enter Try.func51, Try.ntmps51
  go_wp2
  go_ret
  exact ⟨rfl, rfl⟩
theorem on_some (g b off n c : Nat) (w : World) (hn : 0 < n) (hc : n ≤ c) (hm : n ≤ 140737488355328) (h : w.cell? ⟨g, 0, none⟩ = some (.slice (some ⟨b, off, none⟩) n c)) (hf : w.frozen? ⟨g, 0, none⟩ = false) :
    Calls Try.prog 52 #[.pointer (some ⟨g, 0, none⟩)] w fun e w' => e = .returned (.tuple #[]) ∧ (w.setCell ⟨g, 0, none⟩ (.slice (if n = 1 then some ⟨b, off, none⟩ else some ⟨b, off + 3, none⟩) (n - 1) (n - 1))).drew = w' := by
  have hn' : (1 : Int) ≤ n := by omega
  have hc' : (n : Int) ≤ c := by omega
  go_enter Try.func52, Try.ntmps52
  go_region
  all_goals go_wp2
  all_goals (go_end0; exact ⟨rfl, rfl⟩)
theorem list_tail_at {x : OpV} {L : List OpV} {i : Nat} {y : OpV} (h : L[i]? = some y) : (x :: L)[i + 1]? = some y := by simpa using h
/-- What 'on' leaves. -/
theorem RowA.tail {w : World} {g b : Nat} {x : OpV} {L : List OpV} {A : Option Addr} {c off : Nat} (h1 : Blk w g 74 #[.slice A (x :: L).length c, .bool true]) (h3 : OpsIn w b off (x :: L)) :
    RowA (w.setCell ⟨g, 0, none⟩ (.slice (if (x :: L).length = 1 then some ⟨b, off, none⟩ else some ⟨b, off + 3, none⟩) ((x :: L).length - 1) ((x :: L).length - 1))).drew g b L := by
  have hne : b ≠ g := by
    obtain ⟨⟨C, hC⟩, _⟩ := h3
    exact Blk.ne_ hC h1 (by decide)
  have hb := Blk.set_ h1 0 (.slice (if (x :: L).length = 1 then some ⟨b, off, none⟩ else some ⟨b, off + 3, none⟩) ((x :: L).length - 1) ((x :: L).length - 1))
  refine ⟨_, L.length, off + 3, hb.drew, Nat.le_refl _, fun hL => ⟨?_, ?_⟩, fun h => by split at h <;> cases h⟩
  · have : (x :: L).length ≠ 1 := by
      cases L with
      | nil => exact absurd rfl hL
      | cons y L => simp
    rw [if_neg this]
  · have hk : OpsIn ((w.setCell ⟨g, 0, none⟩ (.slice (if (x :: L).length = 1 then some ⟨b, off, none⟩ else some ⟨b, off + 3, none⟩) ((x :: L).length - 1) ((x :: L).length - 1))).drew) b off (x :: L) :=
      h3.keep (Below.heap_setCell w _ _ b hne)
    refine ⟨hk.1, fun i y hi => ?_⟩
    have := hk.2 (i + 1) y (list_tail_at hi)
    rwa [show off + (i + 1) * 3 = off + 3 + i * 3 by omega] at this
theorem on_row (g b : Nat) (x : OpV) (L : List OpV) (w : World) (h : RowA w g b (x :: L)) (hl : (x :: L).length ≤ 32) :
    Calls Try.prog 52 #[.pointer (some ⟨g, 0, none⟩)] w fun e w' => e = .returned (.tuple #[]) ∧ RowA w' g b L ∧ Keeps (two g b) w w' := by
  obtain ⟨A, c, off, h1, h2, h3, h0⟩ := h
  obtain ⟨rfl, h4⟩ := h3 (by simp)
  refine (on_some g b off (x :: L).length c w (by simp) h2 (by omega) ((h1.cell 0).trans rfl) (h1.frozen 0)).mono fun e w' ⟨he, hw⟩ => ⟨he, ?_, ?_⟩
  · subst hw
    exact RowA.tail h1 h4
  · subst hw
    exact ((Keeps.refl _ _).setCell (.inl (.inl rfl)) _).drew
theorem did_a (g b : Nat) (L : List OpV) (w : World) (h : RowA w g b L) (hl : L.length ≤ 32) :
    Calls Try.prog 31 #[.pointer (some ⟨g, 0, none⟩)] w fun e w' => e = .returned (.int .i64 (didE L)) ∧ RowA w' g b (didL L) ∧ Keeps (two g b) w w' := by
  have H := Lib.hid h
  obtain ⟨A, c, off, h1, h2, h3, h0⟩ := h
  have c0 := (h1.cell 0).trans (show _ = some (.slice A L.length c) from rfl)
  have c1 := (h1.cell 1).trans (show _ = some (.bool true) from rfl)
  cases L with
  | nil =>
    clear h0 h1 h2 h3
    go_enter Try.func31, Try.ntmps31
    go_wp2_with (go_at_call 50; refine (none_a g _ c1).mono ?_; rintro e w1 ⟨rfl, rfl⟩)
    go_ret
    exact ⟨rfl, H.out, Keeps.refl _ _⟩
  | cons x L =>
    obtain ⟨rfl, h4⟩ := h3 (by simp)
    have o0 := (h4.2 0 x rfl).1
    simp only [Nat.zero_mul, Nat.add_zero] at o0
    clear h0 h1 h2 h3 h4
    have hne : ((((x :: L).length : Nat) : Int) == 0) = false := by simp; omega
    by_cases hk : x.k = 1
    · have hkb : (x.k == 1) = true := by simp [hk]
      have D1 : Hid (didE (x :: L) = 250) := if_pos hk
      have D2 : Hid (didL (x :: L) = x :: L) := if_pos hk
      clear hk
      go_enter Try.func31, Try.ntmps31
      go_wp2_with (first
        | (go_at_call 50; refine (none_a g _ c1).mono ?_; rintro e w1 ⟨rfl, rfl⟩)
        | (go_at_call 51; refine (runs_some g b off _ c x.k _ (by simp) c0 o0).mono ?_; rintro e w1 ⟨rfl, rfl⟩))
      go_ret
      exact ⟨ret_int D1.out.symm, by rw [D2.out]; exact H.out, Keeps.refl _ _⟩
    · have hkb : (x.k == 1) = false := by simp [hk]
      have D1 : Hid (didE (x :: L) = 0) := if_neg hk
      have D2 : Hid (didL (x :: L) = L) := if_neg hk
      clear hk
      go_enter Try.func31, Try.ntmps31
      go_wp2_with (first
        | (go_at_call 50; refine (none_a g _ c1).mono ?_; rintro e w1 ⟨rfl, rfl⟩)
        | (go_at_call 51; refine (runs_some g b off _ c x.k _ (by simp) c0 o0).mono ?_; rintro e w1 ⟨rfl, rfl⟩)
        | (go_at_call 52; refine (on_row g b x L _ H.out hl).mono ?_; rintro e w1 ⟨rfl, hR, hK⟩))
      go_ret
      exact ⟨ret_int D1.out.symm, by rw [D2.out]; exact hR, hK⟩
/-- The run's number, one less. -/
theorem RowA.less {w : World} {g b off c : Nat} {x : OpV} {L : List OpV} (h1 : Blk w g 74 #[.slice (some ⟨b, off, none⟩) (x :: L).length c, .bool true]) (h2 : (x :: L).length ≤ c) (h4 : OpsIn w b off (x :: L)) (z : Int) :
    RowA (w.setCell ⟨b, off + 1, none⟩ (.int .i64 z)) g b ({ x with n := z } :: L) ∧ OpsIn (w.setCell ⟨b, off + 1, none⟩ (.int .i64 z)) b off ({ x with n := z } :: L) := by
  have hne : b ≠ g := by
    obtain ⟨⟨C, hC⟩, _⟩ := h4
    exact Blk.ne_ hC h1 (by decide)
  have hO : OpsIn (w.setCell ⟨b, off + 1, none⟩ (.int .i64 z)) b off ({ x with n := z } :: L) := by
    obtain ⟨⟨C, hC⟩, h5⟩ := h4
    refine ⟨⟨_, hC.set_ _ _⟩, fun i y hi => ?_⟩
    have hx := h5 0 x rfl
    simp only [Nat.zero_mul, Nat.add_zero] at hx
    cases i with
    | zero =>
      simp only [List.getElem?_cons_zero, Option.some.injEq] at hi
      subst hi
      simp only [Nat.zero_mul, Nat.add_zero]
      refine ⟨?_, ?_, ?_⟩
      · rw [World.cell?_setCell_other _ _ _ _ (by simp)]; exact hx.1
      · exact World.cell?_setCell_same _ _ _ hx.2.1
      · rw [World.cell?_setCell_other _ _ _ _ (by simp)]; exact hx.2.2
    | succ i =>
      have hy := h5 (i + 1) y (by simpa using hi)
      refine ⟨?_, ?_, ?_⟩
      · rw [World.cell?_setCell_other _ _ _ _ (by simp <;> omega)]; exact hy.1
      · rw [World.cell?_setCell_other _ _ _ _ (by simp <;> omega)]; exact hy.2.1
      · rw [World.cell?_setCell_other _ _ _ _ (by simp <;> omega)]; exact hy.2.2
  exact ⟨⟨_, c, off, h1.far (p := ⟨b, off + 1, none⟩) (fun e => hne e.symm) _, h2, fun _ => ⟨rfl, hO⟩, fun h => by cases h⟩, hO⟩
set_option maxHeartbeats 400000 in
theorem ran_a (g b : Nat) (L : List OpV) (w : World) (h : RowA w g b L) (hok : OkRow L) :
    Calls Try.prog 34 #[.pointer (some ⟨g, 0, none⟩)] w fun e w' => e = .returned (.int .i64 (ranE L)) ∧ RowA w' g b (ranL L) ∧ Keeps (two g b) w w' := by
  have H := Lib.hid h
  have HK := Lib.hid hok
  obtain ⟨A, c, off, h1, h2, h3, h0⟩ := h
  have c0 := (h1.cell 0).trans (show _ = some (.slice A L.length c) from rfl)
  have c1 := (h1.cell 1).trans (show _ = some (.bool true) from rfl)
  cases L with
  | nil =>
    clear h0 h1 h2 h3 hok
    go_enter Try.func34, Try.ntmps34
    go_wp2_with (first
      | (go_at_call 50; refine (none_a g _ c1).mono ?_; rintro e w1 ⟨rfl, rfl⟩)
      | (go_at_call 51; refine (runs_nil g A c _ c0).mono ?_; rintro e w1 ⟨rfl, rfl⟩))
    go_ret
    exact ⟨rfl, H.out, Keeps.refl _ _⟩
  | cons x L =>
    obtain ⟨rfl, h4⟩ := h3 (by simp)
    have hx := h4.2 0 x rfl
    simp only [Nat.zero_mul, Nat.add_zero] at hx
    obtain ⟨o0, o1, o2⟩ := hx
    by_cases hk : x.k = 1
    · have hr := ok_run x hok.head hk
      have hkb : (x.k == 1) = true := by simp [hk]
      have hw : wrap64 (x.n - 1) = x.n - 1 := IntWalk.wrap64_in _ (by omega)
      have D1 : Hid (ranE (x :: L) = 0) := if_pos hk
      have HL := Lib.hid (RowA.less h1 h2 h4 (x.n - 1))
      have fr : w.frozen? ⟨b, off + 1, none⟩ = false := by
        obtain ⟨⟨C, hC⟩, _⟩ := h4
        exact hC.frozen _
      have hlen : Hid ((x :: L).length ≤ 32) := hok.1
      have hne : b ≠ g := by
        obtain ⟨⟨C, hC⟩, _⟩ := h4
        exact Blk.ne_ hC h1 (by decide)
      have hpos : (0 : Int) < ((x :: L).length : Nat) := by simp <;> omega
      by_cases hz : x.n - 1 = 0
      · have D2 : Hid (ranL (x :: L) = L) := by show ranL (x :: L) = L; simp only [ranL]; rw [if_pos hk, if_pos hz]
        have hzb : (x.n - 1 == 0) = true := by simp [hz]
        have hn1 : (x.n == 1) = true := by simp; omega
        clear hok hk hz h0 h1 h2 h3 h4
        go_enter Try.func34, Try.ntmps34
        go_wp2_with (first
          | (go_at_call 50; refine (none_a g _ c1).mono ?_; rintro e w1 ⟨rfl, rfl⟩)
          | (go_at_call 51; refine (runs_some g b off _ c x.k _ (by simp) c0 o0).mono ?_; rintro e w1 ⟨rfl, rfl⟩)
          | (go_at_call 52; refine (on_row g b _ L _ HL.out.1 hlen.out).mono ?_; rintro e w1 ⟨rfl, hR, hK⟩))
        go_ret
        exact ⟨ret_int D1.out.symm, by rw [D2.out]; exact hR, (((Keeps.refl _ _).setCell (.inl (.inr rfl)) _).trans hK fun _ h => .inl h)⟩
      · have D2 : Hid (ranL (x :: L) = { x with n := x.n - 1 } :: L) := by show ranL (x :: L) = _; simp only [ranL]; rw [if_pos hk, if_neg hz]
        have hzb : (x.n - 1 == 0) = false := by simp [hz]
        have hn1 : (x.n == 1) = false := by simp; omega
        clear hok hk hz h0 h1 h2 h3 h4
        go_enter Try.func34, Try.ntmps34
        go_wp2_with (first
          | (go_at_call 50; refine (none_a g _ c1).mono ?_; rintro e w1 ⟨rfl, rfl⟩)
          | (go_at_call 51; refine (runs_some g b off _ c x.k _ (by simp) c0 o0).mono ?_; rintro e w1 ⟨rfl, rfl⟩))
        go_ret
        exact ⟨ret_int D1.out.symm, by rw [D2.out]; exact HL.out.1, (Keeps.refl _ _).setCell (.inl (.inr rfl)) _⟩
    · have hkb : (x.k == 1) = false := by simp [hk]
      have D1 : Hid (ranE (x :: L) = 250) := if_neg hk
      have D2 : Hid (ranL (x :: L) = x :: L) := if_neg hk
      clear hk h0 h1 h2 h3 h4 hok o1 o2
      go_enter Try.func34, Try.ntmps34
      go_wp2_with (first
        | (go_at_call 50; refine (none_a g _ c1).mono ?_; rintro e w1 ⟨rfl, rfl⟩)
        | (go_at_call 51; refine (runs_some g b off _ c x.k _ (by simp) c0 o0).mono ?_; rintro e w1 ⟨rfl, rfl⟩))
      go_ret
      exact ⟨ret_int D1.out.symm, by rw [D2.out]; exact H.out, Keeps.refl _ _⟩
end Go.Proofs.Ytomadlopljfcmaa
